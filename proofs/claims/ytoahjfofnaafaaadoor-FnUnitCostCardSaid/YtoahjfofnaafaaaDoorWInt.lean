/- Walks of the small functions on lists of integers: l1In, amountsOk, toIntS, eqIntS, markIntS, heldIntS. -/
import Derived.Test.YtoahjfofnaafaaaDoorProg
import Derived.Test.YtoahjfofnaafaaaDoorKit
namespace Go.Proofs.YtoahjfofnaafaaaDoor
open Go.RowKit

def inB (lo hi x : Int) : Bool := decide (lo ≤ x) && decide (x ≤ hi)
theorem inB_t {lo hi x : Int} : inB lo hi x = true ↔ lo ≤ x ∧ x ≤ hi := by simp [inB]
theorem inB_f {lo hi x : Int} : inB lo hi x = false ↔ x < lo ∨ hi < x := by
  unfold inB
  by_cases h1 : lo ≤ x <;> by_cases h2 : x ≤ hi <;> simp [h1, h2] <;> omega

set_option maxRecDepth 20000 in
theorem l1In_any (x lo hi : Int) (w : World) :
    Calls Tryd.prog 62 #[.int .i64 x, .int .i64 lo, .int .i64 hi] w fun e w' => e = .returned (.bool (inB lo hi x)) ∧ w = w' := by
  unfold inB
  go_enter Tryd.func62, Tryd.ntmps62
  go_wp2
  all_goals (go_ret; exact ⟨ret_bool (by simp [*] <;> omega), rfl⟩)

def amountsOkL (xs : List Int) (many g : Int) : Bool := decide ((xs.length : Int) = many) && xs.all (inB 0 g)

theorem amountsOkL_bad {xs : List Int} {many g : Int} {k : Nat} (hk : k < xs.length) (h : gi xs k < 0 ∨ g < gi xs k) : amountsOkL xs many g = false := by
  unfold amountsOkL
  have : xs.all (inB 0 g) = false := by
    rw [← Bool.not_eq_true, all_iff_gi]
    intro hh
    have := inB_t.1 (hh k hk)
    omega
  rw [this, Bool.and_false]

set_option maxRecDepth 20000 in
set_option maxHeartbeats 400000 in
theorem amountsOk_any (A : Option Addr) (n c : Nat) (xs : List Int) (many g : Int) (w : World) (h : RI w A n xs) :
    Calls Tryd.prog 60 #[.slice A n c, .int .i64 many, .int .i64 g] w fun e w' => e = .returned (.bool (amountsOkL xs many g)) ∧ w = w' := by
  have hm := h.max
  have HL := Lib.hid h.len
  have HC := Lib.hid h.at_
  clear h
  by_cases hmn : (n : Int) = many
  · have HM := Lib.hid hmn
    have hne : ((n : Int) != many) = false := by simp [hmn]
    clear hmn
    go_enter Tryd.func60, Tryd.ntmps60
    go_wp2
    go_loop [15] (fun i => ∃ k : Nat, k ≤ n ∧ i = .int .i64 k ∧ AllTo (fun j => inB 0 g (gi xs j)) k) (fun i => n - (intOf i).toNat)
    case atStart => exact ⟨0, Nat.zero_le _, rfl, AllTo.zero _⟩
    case round =>
      obtain ⟨k, hk, rfl, hin⟩ := hrel
      by_cases hlt : k < n
      · obtain ⟨ad, rfl, hcell⟩ := HC.out k hlt
        go_wp2
        all_goals first
          | (go_ret; exact ⟨ret_bool (amountsOkL_bad (by rw [HL.out]; exact hlt) (by omega)).symm, rfl⟩)
          | (go_round
             case rel => exact ⟨k + 1, by omega, by go_num, hin.succ (inB_t.2 (by omega))⟩
             case measure => simp [intOf]; omega)
      · go_wp2
        go_ret
        refine ⟨ret_bool ?_, rfl⟩
        have e1 : (xs.length : Int) = many := by rw [HL.out]; exact HM.out
        unfold amountsOkL
        rw [Eq.comm, Bool.and_eq_true]
        exact ⟨by simpa using e1, all_iff_gi.2 fun j hj => hin.at_ hlt (by rw [← HL.out]; exact hj)⟩
  · have hne : ((n : Int) != many) = true := by simpa using hmn
    go_enter Tryd.func60, Tryd.ntmps60
    go_wp2
    go_ret
    refine ⟨ret_bool ?_, rfl⟩
    unfold amountsOkL
    rw [HL.out]
    simp [hmn]

theorem infoInt : (Tryd.prog.info? 3).map (fun i => (i.zero, i.size, i.bytes)) = some (some (.int .i64 0), 1, 8) := by kernel_rfl

/-- the block of a list of integers, as make and a loop fill it -/
def BlkI (w : World) (g : Nat) (xs : List Int) : Prop := Blk w g 3 (ints xs).toArray
theorem BlkI.RI_ {w : World} {g : Nat} {xs : List Int} {n : Nat} (h : BlkI w g xs) (hl : xs.length = n) (hm : n ≤ 9223372036854775807) : RI w (some ⟨g, 0, none⟩) n xs :=
  Blk.RI_ h hl hm fun k hk => by rw [List.getElem?_toArray]; exact ints_getElem? (by omega)
theorem BlkI.le {w w' : World} {g : Nat} {xs : List Int} (h : BlkI w g xs) (hb : Le w w') : BlkI w' g xs := Blk.le h hb

/-- equal lists, number by number -/
def eqI (xs ys : List Int) : Bool := decide (xs = ys)
theorem ext_gi {xs ys : List Int} (hl : xs.length = ys.length) (h : ∀ k, k < xs.length → gi xs k = gi ys k) : xs = ys := by
  apply List.ext_getElem? 
  intro k
  by_cases hk : k < xs.length
  · rw [gi_getElem? hk, gi_getElem? (by omega), h k hk]
  · rw [List.getElem?_eq_none (by omega), List.getElem?_eq_none (by omega)]

/-- k, k+1, .. : what markIntS lays -/
def upFrom (k : Int) (n : Nat) : List Int := (List.range n).map fun (i : Nat) => k + (i : Int)
theorem upFrom_length (k : Int) (n : Nat) : (upFrom k n).length = n := by simp [upFrom]
theorem gi_upFrom (k : Int) (n j : Nat) (h : j < n) : gi (upFrom k n) j = k + j := by
  unfold gi upFrom
  rw [List.getD_eq_getElem?_getD, List.getElem?_map, List.getElem?_range h]; rfl


end Go.Proofs.YtoahjfofnaafaaaDoor
