/- Walks of the small functions on lists of integers: l1In, amountsOk, toIntS, eqIntS, markIntS, heldIntS. -/
import Derived.Test.YtbkjfgbafphopaaProg
import Derived.Test.YtbkjfgbafphopaaKit
namespace Go.Proofs.Ytbkjfgbafphopaa
open Go.RowKit

def inB (lo hi x : Int) : Bool := decide (lo ≤ x) && decide (x ≤ hi)
theorem inB_t {lo hi x : Int} : inB lo hi x = true ↔ lo ≤ x ∧ x ≤ hi := by simp [inB]
theorem inB_f {lo hi x : Int} : inB lo hi x = false ↔ x < lo ∨ hi < x := by
  unfold inB
  by_cases h1 : lo ≤ x <;> by_cases h2 : x ≤ hi <;> simp [h1, h2] <;> omega

theorem l1In_any (x lo hi : Int) (w : World) :
    Calls Try.prog 52 #[.int .i64 x, .int .i64 lo, .int .i64 hi] w fun e w' => e = .returned (.bool (inB lo hi x)) ∧ w = w' := by
  unfold inB
  go_enter Try.func52, Try.ntmps52
  go_wp2
  all_goals (go_ret; exact ⟨ret_bool (by simp [*] <;> omega), rfl⟩)

def amountsOkL (xs : List Int) (many g : Int) : Bool := decide ((xs.length : Int) = many) && xs.all (inB 0 g)

theorem amountsOkL_bad {xs : List Int} {many g : Int} {k : Nat} (hk : k < xs.length) (h : gi xs k < 0 ∨ g < gi xs k) : amountsOkL xs many g = false := by
  unfold amountsOkL
  have : xs.all (inB 0 g) = false := by
    rw [← Bool.not_eq_true, all_iff_gi]
    intro hh
    have := inB_t.1 (hh k hk)
    omega
  rw [this, Bool.and_false]

set_option maxHeartbeats 400000 in
theorem amountsOk_any (A : Option Addr) (n c : Nat) (xs : List Int) (many g : Int) (w : World) (h : RI w A n xs) :
    Calls Try.prog 54 #[.slice A n c, .int .i64 many, .int .i64 g] w fun e w' => e = .returned (.bool (amountsOkL xs many g)) ∧ w = w' := by
  have hm := h.max
  have HL := Lib.hid h.len
  have HC := Lib.hid h.at_
  clear h
  by_cases hmn : (n : Int) = many
  · have HM := Lib.hid hmn
    have hne : ((n : Int) != many) = false := by simp [hmn]
    clear hmn
    go_enter Try.func54, Try.ntmps54
    go_wp2
    go_loop [15] (fun i => ∃ k : Nat, k ≤ n ∧ i = .int .i64 k ∧ AllTo (fun j => inB 0 g (gi xs j)) k) (fun i => n - (intOf i).toNat)
    case atStart => exact ⟨0, Nat.zero_le _, rfl, AllTo.zero _⟩
    case round =>
      obtain ⟨k, hk, rfl, hin⟩ := hrel
      by_cases hlt : k < n
      · obtain ⟨ad, rfl, hcell⟩ := HC.out k hlt
        go_wp2
        all_goals first
          | (go_ret; exact ⟨ret_bool (amountsOkL_bad (by rw [HL.out]; exact hlt) (by omega)).symm, rfl⟩)
          | (go_round
             case rel => exact ⟨k + 1, by omega, by go_num, hin.succ (inB_t.2 (by omega))⟩
             case measure => simp [intOf]; omega)
      · go_wp2
        go_ret
        refine ⟨ret_bool ?_, rfl⟩
        have e1 : (xs.length : Int) = many := by rw [HL.out]; exact HM.out
        unfold amountsOkL
        rw [Eq.comm, Bool.and_eq_true]
        exact ⟨by simpa using e1, all_iff_gi.2 fun j hj => hin.at_ hlt (by rw [← HL.out]; exact hj)⟩
  · have hne : ((n : Int) != many) = true := by simpa using hmn
    go_enter Try.func54, Try.ntmps54
    go_wp2
    go_ret
    refine ⟨ret_bool ?_, rfl⟩
    unfold amountsOkL
    rw [HL.out]
    simp [hmn]

theorem infoInt : (Try.prog.info? 3).map (fun i => (i.zero, i.size, i.bytes)) = some (some (.int .i64 0), 1, 8) := by kernel_rfl

/-- the block of a list of integers, as make and a loop fill it -/
def BlkI (w : World) (g : Nat) (xs : List Int) : Prop := Blk w g 3 (ints xs).toArray
theorem BlkI.RI_ {w : World} {g : Nat} {xs : List Int} {n : Nat} (h : BlkI w g xs) (hl : xs.length = n) (hm : n ≤ 9223372036854775807) : RI w (some ⟨g, 0, none⟩) n xs :=
  Blk.RI_ h hl hm fun k hk => by rw [List.getElem?_toArray]; exact ints_getElem? (by omega)
theorem BlkI.le {w w' : World} {g : Nat} {xs : List Int} (h : BlkI w g xs) (hb : Le w w') : BlkI w' g xs := Blk.le h hb

set_option maxHeartbeats 400000 in
theorem toIntS_any (A : Option Addr) (n c : Nat) (xs : List Int) (w : World) (h : RI w A n xs) (hn : n ≤ 1048576) :
    Calls Try.prog 21 #[.slice A n c] w fun e w' => e = .returned (.slice (some ⟨w.heap.size, 0, none⟩) n n) ∧ BlkI w' w.heap.size xs ∧ Le w w' := by
  have HL := Lib.hid h.len
  have HC := Lib.hid h.at_
  clear h
  have hmk := run_mk (P := Try.prog) 31 3 (.int .i64 0) 1 8 Try.underlying31 infoInt n (by omega) (by omega)
  go_enter Try.func21, Try.ntmps21
  go_wp2
  clear hmk
  go_loopw [4] (fun i wr => ∃ k : Nat, k ≤ n ∧ i = .int .i64 k ∧ Le w wr ∧ ∃ cs, Blk wr w.heap.size 3 cs ∧ Filled cs n (fun j => .int .i64 (gi xs j)) (fun _ => .int .i64 0) k) (fun i _ => n - (intOf i).toNat)
  case atStart => exact ⟨0, Nat.zero_le _, rfl, (Le.refl _).alloc _, _, Blk.new _ _ _, by simpa using Filled.made n _ _⟩
  case round =>
    obtain ⟨k, hk, rfl, hle, cs, hblk, hfill⟩ := hrel
    by_cases hlt : k < n
    · obtain ⟨ad, rfl, hcell0⟩ := HC.out k hlt
      have hcell := hle.cell hcell0
      have hc2 := (hblk.cell k).trans (hfill.now hlt)
      have hfz := hblk.frozen k
      have HF := Lib.hid hfill
      clear hcell0 hfill
      go_wp2
      go_roundw
      case rel => exact ⟨k + 1, by omega, by go_num, hle.setCell (Nat.le_refl _) _, _, hblk.set_ _ _, HF.out.set_ hlt rfl⟩
      case measure => simp [intOf]; omega
    · go_wp2
      go_ret
      refine ⟨rfl, ?_, hle⟩
      have e := hfill.toList hlt (ints xs) (by rw [ints_length]; exact HL.out) (fun j hj => ints_getElem? (by rw [HL.out]; exact hj))
      subst e
      exact hblk

/-- equal lists, number by number -/
def eqI (xs ys : List Int) : Bool := decide (xs = ys)
theorem ext_gi {xs ys : List Int} (hl : xs.length = ys.length) (h : ∀ k, k < xs.length → gi xs k = gi ys k) : xs = ys := by
  apply List.ext_getElem? 
  intro k
  by_cases hk : k < xs.length
  · rw [gi_getElem? hk, gi_getElem? (by omega), h k hk]
  · rw [List.getElem?_eq_none (by omega), List.getElem?_eq_none (by omega)]

set_option maxHeartbeats 400000 in
theorem eqIntS_any (A B : Option Addr) (n m c d : Nat) (xs ys : List Int) (w : World) (h : RI w A n xs) (h' : RI w B m ys) :
    Calls Try.prog 23 #[.slice A n c, .slice B m d] w fun e w' => e = .returned (.bool (eqI xs ys)) ∧ ∃ q, w' = w.drewN q := by
  have hm := h.max
  have HL := Lib.hid h.len
  have HC := Lib.hid h.at_
  have HL2 := Lib.hid h'.len
  have HC2 := Lib.hid h'.at_
  clear h h'
  by_cases hnm : n = m
  · subst hnm
    go_enter Try.func23, Try.ntmps23
    go_wp2
    go_loopw [5] (fun i wr => ∃ k : Nat, k ≤ n ∧ i = .int .i64 k ∧ (∃ q, wr = w.drewN q) ∧ AllTo (fun j => gi xs j == gi ys j) k) (fun i _ => n - (intOf i).toNat)
    case atStart => exact ⟨0, Nat.zero_le _, rfl, ⟨0, rfl⟩, AllTo.zero _⟩
    case round =>
      obtain ⟨k, hk, rfl, ⟨q, rfl⟩, hin⟩ := hrel
      by_cases hlt : k < n
      · obtain ⟨ad, rfl, hcell⟩ := HC.out k hlt
        obtain ⟨ad2, rfl, hcell2⟩ := HC2.out k hlt
        by_cases heq : gi xs k = gi ys k
        · have hb : (gi xs k != gi ys k) = false := by simp [heq]
          have HE := Lib.hid heq
          clear heq
          go_wp2
          go_quiet (fail)
          go_wp2
          go_roundw
          case rel => exact ⟨k + 1, by omega, by go_num, ⟨_, rfl⟩, hin.succ (by simpa using HE.out)⟩
          case measure => simp [intOf]; omega
        · have hb : (gi xs k != gi ys k) = true := by simp [heq]
          have HE := Lib.hid heq
          clear heq
          go_wp2
          go_quiet (fail)
          go_wp2
          go_ret
          refine ⟨ret_bool ?_, _, World.drewN_drewN _ _ _⟩
          have : xs ≠ ys := fun e => HE.out (by rw [e])
          simp [eqI, this]
      · go_wp2
        go_ret
        refine ⟨ret_bool ?_, q, rfl⟩
        have : xs = ys := ext_gi (by rw [HL.out, HL2.out]) fun j hj => by simpa using hin.at_ hlt (by rw [← HL.out]; exact hj)
        simp [eqI, this]
  · have hne : ((n : Int) != (m : Int)) = true := by rw [bne_iff_ne]; omega
    go_enter Try.func23, Try.ntmps23
    go_wp2
    go_ret
    refine ⟨ret_bool ?_, 0, rfl⟩
    have : xs ≠ ys := fun e => hnm (by rw [← HL.out, ← HL2.out, e])
    simp [eqI, this]

theorem toIntS_r (A : Option Addr) (n c : Nat) (xs : List Int) (w : World) (h : RI w A n xs) (hn : n ≤ 1048576) :
    Calls Try.prog 21 #[.slice A n c] w fun e w' => e = .returned (.slice (some ⟨w.heap.size, 0, none⟩) n n) ∧ RI w' (some ⟨w.heap.size, 0, none⟩) n xs ∧ BlkI w' w.heap.size xs ∧ Le w w' :=
  (toIntS_any A n c xs w h hn).mono fun _ _ ⟨he, hb, hl⟩ => ⟨he, hb.RI_ h.len h.max, hb, hl⟩
theorem eqIntS_self (A B : Option Addr) (n m c d : Nat) (xs : List Int) (w : World) (h : RI w A n xs) (h' : RI w B m xs) :
    Calls Try.prog 23 #[.slice A n c, .slice B m d] w fun e w' => e = .returned (.bool true) ∧ Le w w' := by
  have := le_of_drew (eqIntS_any A B n m c d xs xs w h h')
  rwa [show eqI xs xs = true by simp [eqI]] at this

/-- k, k+1, .. : what markIntS lays -/
def upFrom (k : Int) (n : Nat) : List Int := (List.range n).map fun (i : Nat) => k + (i : Int)
theorem upFrom_length (k : Int) (n : Nat) : (upFrom k n).length = n := by simp [upFrom]
theorem gi_upFrom (k : Int) (n j : Nat) (h : j < n) : gi (upFrom k n) j = k + j := by
  unfold gi upFrom
  rw [List.getD_eq_getElem?_getD, List.getElem?_map, List.getElem?_range h]; rfl

set_option maxHeartbeats 400000 in
theorem markIntS_any (g n c : Nat) (xs : List Int) (m : Int) (w : World) (h : BlkI w g xs) (hl : xs.length = n) (hn : n ≤ 1048576) (hm0 : 0 ≤ m) (hm1 : m ≤ 1073741824) :
    Calls Try.prog 39 #[.slice (some ⟨g, 0, none⟩) n c, .int .i64 m] w fun e w' => e = .returned (.int .i64 (m + n)) ∧ BlkI w' g (upFrom m n) ∧ w.grownBy w' (some g) := by
  have HL := Lib.hid hl
  clear hl
  have H0 : ∀ j, j < n → (ints xs).toArray[j]? = some (.int .i64 (gi xs j)) := fun j hj => by rw [List.getElem?_toArray]; exact ints_getElem? (by rw [HL.out]; exact hj)
  have HI := Lib.hid H0
  clear H0
  go_enter Try.func39, Try.ntmps39
  go_wp2
  go_loopw [1, 5] (fun v i wr => ∃ k : Nat, k ≤ n ∧ i = .int .i64 k ∧ v = .int .i64 (m + k) ∧ w.grownBy wr (some g) ∧ ∃ cs, Blk wr g 3 cs ∧ Filled cs n (fun j => .int .i64 (m + (j : Int))) (fun j => .int .i64 (gi xs j)) k) (fun _ i _ => n - (intOf i).toNat)
  case atStart => exact ⟨0, Nat.zero_le _, rfl, by simp, World.grownBy.refl _ _, _, h, Filled.start _ (by simp [ints_length, HL.out]) HI.out⟩
  case round =>
    obtain ⟨k, hk, rfl, rfl, hgr, cs, hblk, hfill⟩ := hrel
    by_cases hlt : k < n
    · have hc2 := (hblk.cell k).trans (hfill.now hlt)
      have hfz := hblk.frozen k
      have HF := Lib.hid hfill
      clear hfill
      go_wp2
      go_roundw
      case rel => exact ⟨k + 1, by omega, by go_num, by go_num, gb_setCell hgr rfl _, _, hblk.set_ _ _, HF.out.set_ hlt rfl⟩
      case measure => simp [intOf]; omega
    · go_wp2
      go_ret
      obtain rfl : k = n := by omega
      refine ⟨rfl, ?_, hgr⟩
      have e := hfill.toList hlt (ints (upFrom m k)) (by rw [ints_length, upFrom_length]) (fun j hj => by rw [ints_getElem? (by rw [upFrom_length]; exact hj), gi_upFrom _ _ _ hj])
      subst e
      exact hblk

set_option maxHeartbeats 400000 in
theorem heldIntS_any (A : Option Addr) (n c : Nat) (m : Int) (w : World) (h : RI w A n (upFrom m n)) (hn : n ≤ 1048576) (hm0 : 0 ≤ m) (hm1 : m ≤ 1073741824) :
    Calls Try.prog 40 #[.slice A n c, .int .i64 m] w fun e w' => e = .returned (.int .i64 (m + n)) ∧ w = w' := by
  have HC := Lib.hid h.at_
  clear h
  go_enter Try.func40, Try.ntmps40
  go_wp2
  go_loop [1, 5] (fun v i => ∃ k : Nat, k ≤ n ∧ i = .int .i64 k ∧ v = .int .i64 (m + k)) (fun _ i => n - (intOf i).toNat)
  case atStart => exact ⟨0, Nat.zero_le _, rfl, by simp⟩
  case round =>
    obtain ⟨k, hk, rfl, rfl⟩ := hrel
    by_cases hlt : k < n
    · obtain ⟨ad, rfl, hcell⟩ := HC.out k hlt
      rw [gi_upFrom _ _ _ hlt] at hcell
      go_wp2
      go_round
      case rel => exact ⟨k + 1, by omega, by go_num, by go_num⟩
      case measure => simp [intOf]; omega
    · go_wp2
      go_ret
      obtain rfl : k = n := by omega
      exact ⟨rfl, rfl⟩

end Go.Proofs.Ytbkjfgbafphopaa
