/- Walks: TakeOk of the program and of the reference. -/
import Derived.Test.YtmemenkioejdoaaDoorWLotA
namespace Go.Proofs.YtmemenkioejdoaaDoor
open Go.RowKit

/-- so many units of lot k can be taken on a day -/
def tkAt (ps : List (Int × Int)) (day : Int) (take : List Int) (k : Nat) : Bool := inB 0 (gp ps k).1 (gi take k) && (decide (day ≤ (gp ps k).2) || decide (gi take k = 0))
def takeOkL (ps : List (Int × Int)) (day : Int) (take : List Int) : Bool := (lotsL ps && decide (take.length = ps.length)) && (List.range ps.length).all (tkAt ps day take)
theorem takeOkL_f {ps : List (Int × Int)} {day : Int} {take : List Int} {n k : Nat} (hl : ps.length = n) (hk : k < n) (h : tkAt ps day take k = false) : takeOkL ps day take = false := by
  unfold takeOkL
  have : (List.range ps.length).all (tkAt ps day take) = false := by
    rw [← Bool.not_eq_true, List.all_eq_true]
    intro hh
    rw [hh k (List.mem_range.2 (by omega))] at h; cases h
  rw [this, Bool.and_false]
theorem takeOkL_t {ps : List (Int × Int)} {day : Int} {take : List Int} {n : Nat} (hl : ps.length = n) (h1 : lotsL ps = true) (h2 : take.length = n) (h : ∀ k, k < n → tkAt ps day take k = true) : takeOkL ps day take = true := by
  unfold takeOkL
  rw [h1, hl, h2, Bool.true_and, decide_eq_true rfl, Bool.true_and, List.all_eq_true]
  intro k hk; exact h k (List.mem_range.1 hk)
theorem takeOk_facts {ps : List (Int × Int)} {day : Int} {take : List Int} {n : Nat} (hl : ps.length = n) (h : takeOkL ps day take = true) : lotsL ps = true ∧ take.length = n ∧ ∀ k, k < n → (0 ≤ gi take k ∧ gi take k ≤ (gp ps k).1) ∧ (day ≤ (gp ps k).2 ∨ gi take k = 0) := by
  unfold takeOkL at h
  rw [Bool.and_eq_true, Bool.and_eq_true, List.all_eq_true, hl] at h
  obtain ⟨⟨h1, h2⟩, h3⟩ := h
  refine ⟨h1, of_decide_eq_true h2, fun k hk => ?_⟩
  have := h3 k (List.mem_range.2 hk)
  unfold tkAt at this
  rw [Bool.and_eq_true, inB_t, Bool.or_eq_true, decide_eq_true_eq, decide_eq_true_eq] at this
  exact this

set_option maxRecDepth 20000 in
set_option maxHeartbeats 2000000 in
theorem specTakeOk_any (A B : Option Addr) (n m c d : Nat) (ps : List (Int × Int)) (day : Int) (take : List Int) (w : World) (h : RP w A n ps) (h' : RI w B m take) :
    Calls Tryd.prog 29 #[.slice A n c, .int .i64 day, .slice B m d] w fun e w' => e = .returned (.bool (takeOkL ps day take)) ∧ ∃ q, w' = w.drewN q := by
  have hv := specLotsValid_any A n c ps w h
  have hm := h.max
  cases hb : lotsL ps
  · rw [hb] at hv
    have e0 : takeOkL ps day take = false := by simp [takeOkL, hb]
    rw [e0]
    have HV := Lib.hid hv
    clear hv hb e0 h
    go_enter Tryd.func29, Tryd.ntmps29
    go_wp2_with (go_at_call 18; refine HV.out.mono ?_; rintro e w1 ⟨rfl, rfl⟩)
    go_ret
    exact ⟨rfl, 0, rfl⟩
  · rw [hb] at hv
    have HV := Lib.hid hv
    by_cases hmn : m = n
    · subst hmn
      have HLV := Lib.hid hb
      have HL := Lib.hid h.len
      have HL2 := Lib.hid h'.len
      have HC := Lib.hid h.at_
      have HC2 := Lib.hid h'.at_
      clear hv hb h h'
      go_enter Tryd.func29, Tryd.ntmps29
      go_wp2_with (go_at_call 18; refine HV.out.mono ?_; rintro e w1 ⟨rfl, rfl⟩)
      go_loopw [7] (fun i wr => ∃ k : Nat, k ≤ m ∧ i = .int .i64 k ∧ (∃ q, wr = w.drewN q) ∧ AllTo (tkAt ps day take) k) (fun i _ => m - (intOf i).toNat)
      case atStart => exact ⟨0, Nat.zero_le _, rfl, ⟨0, rfl⟩, AllTo.zero _⟩
      case round =>
        obtain ⟨k, hk, rfl, ⟨q, rfl⟩, hin⟩ := hrel
        have HI := Lib.hid hin
        clear hin
        by_cases hlt : k < m
        · obtain ⟨ad, rfl, c1, c2⟩ := HC.out k hlt
          obtain ⟨ad2, rfl, c3⟩ := HC2.out k hlt
          cases hb : inB 0 (gp ps k).1 (gi take k)
          · go_wp2
            go_quiet ((go_at_call 28; exact quiet_al (l1In_any _ _ _ _)))
            go_wp2
            go_ret
            exact ⟨ret_bool (takeOkL_f HL.out hlt (by simp [tkAt, hb])).symm, _, World.drewN_drewN _ _ _⟩
          · obtain ⟨t0, t1⟩ := inB_t.1 hb
            by_cases hp : 0 < gi take k
            · by_cases hd : (gp ps k).2 < day
              · have hno : tkAt ps day take k = false := by
                  unfold tkAt
                  rw [hb, decide_eq_false (by omega), decide_eq_false (by omega)]; rfl
                have HNO := Lib.hid hno
                clear hno
                go_wp2
                go_quiet ((go_at_call 28; exact quiet_al (l1In_any _ _ _ _)))
                go_wp2
                go_ret
                exact ⟨ret_bool (takeOkL_f HL.out hlt HNO.out).symm, _, World.drewN_drewN _ _ _⟩
              · have hd' : decide ((gp ps k).2 < day) = false := by simp; omega
                have hok : tkAt ps day take k = true := by
                  unfold tkAt
                  rw [hb, decide_eq_true (show day ≤ (gp ps k).2 by omega)]; rfl
                have HOK := Lib.hid hok
                clear hok hd
                go_wp2
                go_quiet ((go_at_call 28; exact quiet_al (l1In_any _ _ _ _)))
                go_wp2
                go_roundw
                case rel => exact ⟨k + 1, by omega, by go_num, ⟨_, rfl⟩, HI.out.succ HOK.out⟩
                case measure => simp [intOf]; omega
            · have hp' : decide (0 < gi take k) = false := by simp; omega
              have hok : tkAt ps day take k = true := by
                unfold tkAt
                rw [hb, decide_eq_true (show gi take k = 0 by omega), Bool.or_true]; rfl
              have HOK := Lib.hid hok
              clear hok hp
              go_wp2
              go_quiet ((go_at_call 28; exact quiet_al (l1In_any _ _ _ _)))
              go_wp2
              go_roundw
              case rel => exact ⟨k + 1, by omega, by go_num, ⟨_, rfl⟩, HI.out.succ HOK.out⟩
              case measure => simp [intOf]; omega
        · go_wp2
          go_ret
          exact ⟨ret_bool (takeOkL_t HL.out HLV.out HL2.out fun j hj => HI.out.at_ hlt hj).symm, q, rfl⟩
    · have hne : ((m : Int) != (n : Int)) = true := by rw [bne_iff_ne]; omega
      have hl := h.len
      have hl2 := h'.len
      have e0 : takeOkL ps day take = false := by
        unfold takeOkL
        rw [hl, hl2, decide_eq_false hmn]; simp
      rw [e0]
      clear hv hb e0 h hl hl2
      go_enter Tryd.func29, Tryd.ntmps29
      go_wp2_with (go_at_call 18; refine HV.out.mono ?_; rintro e w1 ⟨rfl, rfl⟩)
      go_ret
      exact ⟨rfl, 0, rfl⟩

end Go.Proofs.YtmemenkioejdoaaDoor
