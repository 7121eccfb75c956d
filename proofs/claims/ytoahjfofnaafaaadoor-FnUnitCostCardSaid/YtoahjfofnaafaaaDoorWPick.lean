/- Walks: the reader of the code (pick, odd, l20Open). Of what it reads nothing is asked but that the numbers are small. -/
import Derived.Test.YtoahjfofnaafaaaDoorWChg
import Derived.Test.YtoahjfofnaafaaaDoorPBits
namespace Go.Proofs.YtoahjfofnaafaaaDoor
open Go.RowKit

/-- the slice '.slice A n c' can be read as bytes -/
structure RB (w : World) (A : Option Addr) (n : Nat) : Prop where
  max : n ≤ 9223372036854775807
  at_ : ∀ k, k < n → ∃ (ad : Addr) (x : Nat), A = some ad ∧ w.cell? (ad.add k) = some (.int .u8 (x : Int)) ∧ x ≤ 255
theorem RB.le {w w' : World} {A : Option Addr} {n : Nat} (h : RB w A n) (hb : Le w w') : RB w' A n :=
  ⟨h.max, fun k hk => let ⟨ad, x, e, hc, hx⟩ := h.at_ k hk; ⟨ad, x, e, hb.cell hc, hx⟩⟩
/-- block g is a reader at position p, made since W -/
structure Rd (W w : World) (g : Nat) (A : Option Addr) (n c p : Nat) : Prop where
  blk : Blk w g 112 #[.slice A n c, .int .i64 (p : Int)]
  le : Le W w
  base : W.heap.size ≤ g
  bytes : RB W A n
  small : n ≤ 2000
theorem Rd.lt {W w : World} {g : Nat} {A : Option Addr} {n c p : Nat} (h : Rd W w g A n c p) : g < w.heap.size := h.blk.lt
theorem Rd.more {W w w' : World} {g : Nat} {A : Option Addr} {n c p : Nat} (h : Rd W w g A n c p) (hl : Le w w') : Rd W w' g A n c p := ⟨h.blk.le hl, h.le.trans hl, h.base, h.bytes, h.small⟩
theorem Rd.grown {W w w' : World} {g : Nat} {A : Option Addr} {n c p : Nat} {row : Option Nat} (h : Rd W w g A n c p) (hg : w.grownBy w' row) (hr : ∀ k, row = some k → g < k) : Rd W w' g A n c p :=
  ⟨h.blk.grown hg (fun e => Nat.lt_irrefl _ (hr g e.symm)), h.le.grown hg (fun k hk => by have := hr k hk; have := h.base; omega), h.base, h.bytes, h.small⟩
theorem Rd.chg {W w w' : World} {g lo hi : Nat} {A : Option Addr} {n c p : Nat} (h : Rd W w g A n c p) (hc : Chg lo hi w w') (hl : g < lo) : Rd W w' g A n c p :=
  ⟨(hc.block g h.blk.lt (.inl hl)).trans h.blk, hc.le h.le (by have := h.base; omega), h.base, h.bytes, h.small⟩
theorem Rd.pos {W w : World} {g : Nat} {A : Option Addr} {n c p : Nat} (h : Rd W w g A n c p) (q : Nat) : Rd W (w.setCell ⟨g, 1, none⟩ (.int .i64 (q : Int))) g A n c q ∧ Chg g (g + 1) w (w.setCell ⟨g, 1, none⟩ (.int .i64 (q : Int))) := by
  refine ⟨⟨?_, h.le.setCell h.base _, h.base, h.bytes, h.small⟩, Chg.set (Nat.le_refl _) (Nat.lt_succ_self _) _ _⟩
  have := h.blk.set_ 1 (.int .i64 (q : Int))
  simpa using this

theorem bits_xor_nat (a b : Nat) (ha : a < 4294967296) (hb : b < 4294967296) : bits .xor .i64 (a : Int) (b : Int) = ((a ^^^ b : Nat) : Int) := by
  have h1 : a ^^^ b < 2 ^ 32 := Nat.xor_lt_two_pow (by omega) (by omega)
  unfold bits
  show IntKind.i64.wrap ((BitVec.ofInt 64 (a : Int) ^^^ BitVec.ofInt 64 (b : Int)).toNat : Int) = _
  rw [ofInt_nat, ofInt_nat, BitVec.toNat_xor, BitVec.toNat_ofNat, BitVec.toNat_ofNat, Nat.mod_eq_of_lt (by omega), Nat.mod_eq_of_lt (by omega)]
  exact IntWalk.i64_in _ (by omega)
theorem mix_nat (v N : Nat) (hv : v < 4294967296) : (bits .xor .i64 (v : Int) ((v : Int) / 64)).tmod (N : Int) = (((v ^^^ v / 64) % N : Nat) : Int) := by
  have e : (v : Int) / 64 = ((v / 64 : Nat) : Int) := rfl
  rw [e, bits_xor_nat v (v / 64) hv (by omega), Int.tmod_eq_emod_of_nonneg (by omega)]
  exact (Int.natCast_emod _ N).symm
/-- what a draw of a number below N leaves -/
def Pk (W w : World) (g : Nat) (A : Option Addr) (n c p N : Nat) (e : Ending) (w' : World) : Prop :=
  ∃ x : Nat, e = .returned (.int .i64 (x : Int)) ∧ x < N ∧ Rd W w' g A n c (p + 1) ∧ Chg g (g + 1) w w'

set_option maxRecDepth 20000 in
set_option maxHeartbeats 2000000 in
theorem pick_any (W w : World) (g : Nat) (A : Option Addr) (n c p N : Nat) (h : Rd W w g A n c p) (hp : p ≤ 1000000) (h1 : 1 ≤ N) (h2 : N ≤ 1000000) :
    Calls Tryd.prog 41 #[.pointer (some ⟨g, 0, none⟩), .int .i64 (N : Int)] w (Pk W w g A n c p N) := by
  obtain ⟨h3, h4⟩ := h.pos (p + 1)
  have a0 := h.blk.cell 0
  have a1 := h.blk.cell 1
  have z1 := h.blk.frozen 1
  have hn := h.small
  simp at a0 a1
  rw [show ((p + 1 : Nat) : Int) = (p : Int) + 1 by omega] at h3 h4
  obtain ⟨w1, hw1⟩ : ∃ w1, w.setCell ⟨g, 1, none⟩ (.int .i64 ((p : Int) + 1)) = w1 := ⟨_, rfl⟩
  rw [hw1] at h3 h4
  have b0 := h3.blk.cell 0
  have b1 := h3.blk.cell 1
  simp at b0 b1
  have HB := Lib.hid (fun k hk => (h3.bytes.le h3.le).at_ k hk)
  have H3 := Lib.hid h3
  have H4 := Lib.hid h4
  clear h h3 h4
  have hN1 : ¬ (N : Int) < 1 := by omega
  have hNN : ¬ N = 0 := by omega
  by_cases hn0 : n = 0
  · subst hn0
    go_enter Tryd.func41, Tryd.ntmps41
    go_wp2
    go_ret
    exact ⟨0, rfl, by omega, H3.out, H4.out⟩
  · by_cases hpn : p < n
    · obtain ⟨ad, x, rfl, hx, hx2⟩ := HB.out p hpn
      go_enter Tryd.func41, Tryd.ntmps41
      go_wp2
      go_ret
      exact ⟨x % N, ret_int (by omega), Nat.mod_lt _ (by omega), H3.out, H4.out⟩
    · obtain ⟨i1, hi1⟩ : ∃ i1, i1 = p % n := ⟨_, rfl⟩
      obtain ⟨i2, hi2⟩ : ∃ i2, i2 = (p * 7 + 3) % n := ⟨_, rfl⟩
      have hn1 : i1 < n := by rw [hi1]; exact Nat.mod_lt _ (by omega)
      have hn2 : i2 < n := by rw [hi2]; exact Nat.mod_lt _ (by omega)
      obtain ⟨ad, x, rfl, hx, hx2⟩ := HB.out i1 hn1
      obtain ⟨ad2, y, e2, hy, hy2⟩ := HB.out i2 hn2
      injection e2 with e2
      subst e2
      obtain ⟨q6, hq6⟩ : ∃ q6, q6 = p / n := ⟨_, rfl⟩
      have hq6b : q6 ≤ 1000000 := by rw [hq6]; exact Nat.le_trans (Nat.div_le_self _ _) hp
      have e1 : (p : Int) % (n : Int) = (i1 : Int) := by rw [hi1]; exact (Int.natCast_emod p n).symm
      have e4 : ((p : Int) * 7 + 3) % (n : Int) = (i2 : Int) := by rw [hi2, show (p : Int) * 7 + 3 = ((p * 7 + 3 : Nat) : Int) by omega]; exact (Int.natCast_emod _ n).symm
      have e5 : (p : Int) / (n : Int) = (q6 : Int) := by rw [hq6]; exact (Int.natCast_ediv p n).symm
      have g1 : (0 : Int) ≤ (i1 : Int) := by omega
      have g2 : (i1 : Int) < (n : Int) := by omega
      have g3 : (0 : Int) ≤ (i2 : Int) := by omega
      have g4 : (i2 : Int) < (n : Int) := by omega
      clear hi1 hi2 hq6
      go_enter Tryd.func41, Tryd.ntmps41
      go_wp2
      go_quiet (fail)
      go_wp2
      go_ret
      refine ⟨(((x * 131 + y * 1117 + p * 29 + q6 * 53) ^^^ (x * 131 + y * 1117 + p * 29 + q6 * 53) / 64) % N), ret_int ?_, Nat.mod_lt _ (by omega), H3.out.more ((Le.refl _).drewN _), H4.out.trans (Chg.of_le ((Le.refl _).drewN _))⟩
      rw [show (x : Int) * 131 + (y : Int) * 1117 + (p : Int) * 29 + (q6 : Int) * 53 = ((x * 131 + y * 1117 + p * 29 + q6 * 53 : Nat) : Int) by omega]
      exact mix_nat _ N (by omega)

/-- what a drawn truth leaves -/
def Pb (W w : World) (g : Nat) (A : Option Addr) (n c p : Nat) (e : Ending) (w' : World) : Prop :=
  ∃ t : Bool, e = .returned (.bool t) ∧ Rd W w' g A n c (p + 1) ∧ Chg g (g + 1) w w'
set_option maxRecDepth 20000 in
theorem odd_zero (g : Nat) (w : World) : Calls Tryd.prog 77 #[.pointer (some ⟨g, 0, none⟩), .int .i64 0] w fun e w' => e = .returned (.bool false) ∧ w = w' := by
  go_enter Tryd.func77, Tryd.ntmps77
  go_wp2
  go_ret
  exact ⟨rfl, rfl⟩
set_option maxRecDepth 20000 in
set_option maxHeartbeats 1000000 in
theorem odd_any (W w : World) (g : Nat) (A : Option Addr) (n c p N : Nat) (h : Rd W w g A n c p) (hp : p ≤ 1000000) (h1 : 1 ≤ N) (h2 : N ≤ 1000000) :
    Calls Tryd.prog 77 #[.pointer (some ⟨g, 0, none⟩), .int .i64 (N : Int)] w (Pb W w g A n c p) := by
  have HP := Lib.hid (pick_any W w g A n c p N h hp h1 h2)
  have hN : (0 : Int) < (N : Int) := by omega
  have hN2 : 0 < N := by omega
  clear h
  go_enter Tryd.func77, Tryd.ntmps77
  go_wp2_with fail
  refine HP.out.mono ?_; rintro e w1 ⟨x, rfl, hx, r1, g1⟩
  have R1 := Lib.hid r1
  have G1 := Lib.hid g1
  clear r1 g1
  go_wp2
  go_ret
  exact ⟨_, rfl, R1.out, G1.out⟩
theorem RB.take {w : World} {A : Option Addr} {n m : Nat} (h : RB w A n) (hm : m ≤ n) : RB w A m := ⟨by have := h.max; omega, fun k hk => h.at_ k (by omega)⟩
set_option maxRecDepth 20000 in
set_option maxHeartbeats 1000000 in
theorem open_any (A : Option Addr) (n c : Nat) (w : World) (h : RB w A n) (hc : n ≤ c) :
    Calls Tryd.prog 39 #[.slice A n c] w fun e w' => e = .returned (.pointer (some ⟨w.heap.size, 0, none⟩)) ∧ Rd w w' w.heap.size A (min n 2000) c 0 := by
  have hm := h.max
  have H := Lib.hid h
  clear h
  by_cases hn : n ≤ 2000
  · rw [Nat.min_eq_left hn]
    go_enter Tryd.func39, Tryd.ntmps39
    go_wp2
    go_ret
    exact ⟨rfl, Blk.new _ _ _, (Le.refl _).alloc _, Nat.le_refl _, H.out, hn⟩
  · rw [Nat.min_eq_right (by omega)]
    have hn1 : (2000 : Int) < (n : Int) := by omega
    have hc1 : (2000 : Int) ≤ (c : Int) := by omega
    obtain ⟨ad, x, rfl, _⟩ := H.out.at_ 0 (by omega)
    go_enter Tryd.func39, Tryd.ntmps39
    go_wp2
    go_ret
    exact ⟨rfl, Blk.new _ _ _, (Le.refl _).alloc _, Nat.le_refl _, H.out.take (by omega), Nat.le_refl _⟩
end Go.Proofs.YtoahjfofnaafaaaDoor
