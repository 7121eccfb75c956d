/- Results that are slices: how a law marks them and looks at them again. -/
import Derived.Test.YtbkjfgbafphopaaWInt
import Derived.Maps.AppendAt
namespace Go.Proofs.Ytbkjfgbafphopaa
open Go.RowKit

/-- a contract whose result is a list of integers of its own, as the laws use it -/
theorem slice_ret {P : Program} {f : FuncId} {args : Array Value} {w : World} {t : TypeId} {L : List Int}
    (h : Calls P f args w fun e w' => ∃ v, e = .returned v ∧ w'.ownsRow w.heap.size t 1 v L.length (ints L) ∧ Le w w') (hm : L.length ≤ 9223372036854775807) :
    Calls P f args w fun e w' => ∃ A c, e = .returned (.slice A L.length c) ∧ RI w' A L.length L ∧ w'.ownsRow w.heap.size t 1 (.slice A L.length c) L.length (ints L) ∧ Le w w' :=
  h.mono fun e w' ⟨v, he, ho, hl⟩ => by
    obtain ⟨A, c, rfl, hr⟩ := own_RI ho hm
    exact ⟨A, c, he, hr, ho, hl⟩

theorem own_RI2 {w : World} {base : Nat} {e : TypeId} {A : Option Addr} {n c : Nat} {xs : List Int} (h : w.ownsRow base e 1 (.slice A n c) n (ints xs)) (hm : n ≤ 9223372036854775807) : RI w A n xs := by
  obtain ⟨A', c', he, hr⟩ := own_RI h hm
  injection he with e1 e2 e3
  subst e1
  exact hr
/-- an owned row while only another block, and what is new, turns -/
theorem own_gb {w w' : World} {base : Nat} {e : TypeId} {size : Nat} {v : Value} {n : Nat} {xs : List Value} {row : Option Nat} (h : w.ownsRow base e size v n xs) (hg : w.grownBy w' row) (hb : ∀ g, row = some g → g < base) : w'.ownsRow base e size v n xs := by
  refine h.kept hg ?_
  cases hv : v.ownBlock with
  | none => exact .inl rfl
  | some k =>
    refine .inr fun e => ?_
    have := (h.lt k hv).1
    have := hb k e.symm
    omega
theorem own_Le {w w' : World} {base : Nat} {e : TypeId} {size : Nat} {v : Value} {n : Nat} {xs : List Value} (h : w.ownsRow base e size v n xs) (hl : Le w w') : w'.ownsRow base e size v n xs := by
  obtain ⟨h1, h2⟩ := h
  refine ⟨h1, ?_⟩
  rcases h2 with h2 | ⟨g, cap, cur, hv, hg, hh, r⟩
  · exact Or.inl h2
  · exact Or.inr ⟨g, cap, cur, hv, hg, (Blk.le (t := e) hh hl), r⟩
/-- what the marking of an owned row does, seen from a world of before -/
theorem Le.marked {a w w' : World} {base : Nat} {e : TypeId} {size : Nat} {v : Value} {n : Nat} {xs : List Value} (h : Le a w) (ho : w.ownsRow base e size v n xs) (hb : a.heap.size ≤ base) (hg : w.grownBy w' v.ownBlock) : Le a w' :=
  h.grown hg fun k hk => by have := (ho.lt k hk).1; omega

set_option maxHeartbeats 1000000 in
theorem markIntS_own (A : Option Addr) (n c base : Nat) (xs : List Int) (m : Int) (w : World) (h : w.ownsRow base 3 1 (.slice A n c) n (ints xs)) (hn : n ≤ 1048576) (hm0 : 0 ≤ m) (hm1 : m ≤ 1073741824) :
    Calls Try.prog 39 #[.slice A n c, .int .i64 m] w fun e w' => e = .returned (.int .i64 (m + n)) ∧ w'.ownsRow base 3 1 (.slice A n c) n (ints (upFrom m n)) ∧ w.grownBy w' (Value.ownBlock (.slice A n c)) := by
  rcases h.2 with ⟨hv, rfl⟩ | ⟨g, cap, cur, hv, hbg, hg, hnc, hcm, hcs, htake⟩
  · injection hv with e1 e2 e3
    subst e1; subst e3
    go_enter Try.func39, Try.ntmps39
    go_wp2
    go_loop [1, 5] (fun v i => i = .int .i64 0 ∧ v = .int .i64 m) (fun _ _ => 0)
    case atStart => exact ⟨rfl, rfl⟩
    case round =>
      obtain ⟨rfl, rfl⟩ := hrel
      go_wp2
      go_ret
      exact ⟨by simp, by simpa [upFrom, ints] using World.ownsRow_nil _ _ _ _, World.grownBy.refl _ _⟩
  · injection hv with e1 e2 e3
    subst e1; subst e3
    have hblk0 : Blk w g 3 cur := hg
    have hcs' : cur.size = c := by omega
    have HCS := Lib.hid hcs'
    have HT := Lib.hid htake
    have HNC := Lib.hid hnc
    have HCM := Lib.hid hcm
    clear hg hcs hcs' htake h hcm
    go_enter Try.func39, Try.ntmps39
    go_wp2
    go_loopw [1, 5] (fun v i wr => ∃ k : Nat, k ≤ n ∧ i = .int .i64 k ∧ v = .int .i64 (m + k) ∧ w.grownBy wr (some g) ∧ ∃ cs, Blk wr g 3 cs ∧ cs.size = c ∧ ∀ j, j < k → cs[j]? = some (.int .i64 (m + (j : Nat)))) (fun _ i _ => n - (intOf i).toNat)
    case atStart => exact ⟨0, Nat.zero_le _, rfl, by simp, World.grownBy.refl _ _, _, hblk0, HCS.out, fun j hj => absurd hj (by omega)⟩
    case round =>
      obtain ⟨k, hk, rfl, rfl, hgr, cs, hblk, hsz, hin⟩ := hrel
      by_cases hlt : k < n
      · have hkc : k < cs.size := by omega
        have hc2 := (hblk.cell k).trans (Array.getElem?_eq_getElem hkc)
        have hfz := hblk.frozen k
        have HS := Lib.hid hsz
        have HI := Lib.hid hin
        clear hin
        go_wp2
        go_roundw
        case rel =>
          refine ⟨k + 1, by omega, by go_num, by go_num, gb_setCell hgr rfl _, _, hblk.set_ _ _, by simp [HS.out], fun j hj => ?_⟩
          rw [Array.getElem?_setIfInBounds]
          by_cases e : k = j
          · subst e; simp [HS.out]; omega
          · rw [if_neg e]; exact HI.out j (by omega)
        case measure => simp [intOf]; omega
      · obtain rfl : k = n := by omega
        go_wp2
        go_ret
        have hnc' := HNC.out
        refine ⟨rfl, ⟨by rw [ints_length, upFrom_length]; omega, .inr ⟨g, c, cs, rfl, hbg, hblk, HNC.out, HCM.out, by omega, ?_⟩⟩, hgr⟩
        apply List.ext_getElem?
        intro j
        by_cases hj : j < k
        · rw [List.getElem?_take, if_pos (by omega), ints_getElem? (by rw [upFrom_length]; exact hj), gi_upFrom _ _ _ hj, Array.getElem?_toList]
          exact hin j hj
        · rw [List.getElem?_take, if_neg (by omega), List.getElem?_eq_none (by rw [ints_length, upFrom_length]; omega)]

end Go.Proofs.Ytbkjfgbafphopaa
