/- Walks: SpansValid, OrderOk, BurnOk of the program and of the reference. -/
import Derived.Test.YtedopialmhpalaaWInt
namespace Go.Proofs.Ytedopialmhpalaa
open Go.RowKit

def spansL (xs : List Int) : Bool := decide (xs.length ≤ 6) && xs.all (inB 0 30)

set_option maxHeartbeats 400000 in
theorem implSpansValid_any (A : Option Addr) (n c : Nat) (xs : List Int) (w : World) (h : RI w A n xs) :
    Calls Try.prog 16 #[.slice A n c] w fun e w' => e = .returned (.bool (spansL xs)) ∧ w = w' := by
  have hm := h.max
  have HL := Lib.hid h.len
  by_cases hn : n ≤ 6
  · go_enter Try.func16, Try.ntmps16
    go_wp2_with (go_at_call 45; refine (amountsOk_any A n c xs _ _ _ h).mono ?_; rintro e w' ⟨rfl, rfl⟩)
    go_ret
    refine ⟨ret_bool ?_, rfl⟩
    unfold spansL amountsOkL
    rw [HL.out]
    simp [hn]
  · go_enter Try.func16, Try.ntmps16
    go_wp2
    go_ret
    refine ⟨ret_bool ?_, rfl⟩
    unfold spansL
    rw [HL.out]
    simp [hn]

set_option maxHeartbeats 400000 in
theorem specSpansValid_any (A : Option Addr) (n c : Nat) (xs : List Int) (w : World) (h : RI w A n xs) :
    Calls Try.prog 14 #[.slice A n c] w fun e w' => e = .returned (.bool (spansL xs)) ∧ w = w' := by
  have hm := h.max
  have HL := Lib.hid h.len
  have HC := Lib.hid h.at_
  clear h
  go_enter Try.func14, Try.ntmps14
  go_wp2
  go_loop [3] (fun i => ∃ k : Nat, k ≤ n ∧ i = .int .i64 k ∧ AllTo (fun j => inB 0 30 (gi xs j)) k) (fun i => n - (intOf i).toNat)
  case atStart => exact ⟨0, Nat.zero_le _, rfl, AllTo.zero _⟩
  case round =>
    obtain ⟨k, hk, rfl, hin⟩ := hrel
    by_cases hlt : k < n
    · obtain ⟨ad, rfl, hcell⟩ := HC.out k hlt
      cases hb : inB 0 30 (gi xs k)
      · go_wp2_with (go_at_call 44; refine (l1In_any _ _ _ _).mono ?_; rintro e w' ⟨rfl, rfl⟩)
        go_ret
        refine ⟨ret_bool ?_, rfl⟩
        have : xs.all (inB 0 30) = false := by
          rw [← Bool.not_eq_true, all_iff_gi]
          intro hh
          have := hh k (by rw [HL.out]; exact hlt)
          rw [hb] at this; cases this
        simp [spansL, this]
      · go_wp2_with (go_at_call 44; refine (l1In_any _ _ _ _).mono ?_; rintro e w' ⟨rfl, rfl⟩)
        go_round
        case rel => exact ⟨k + 1, by omega, by go_num, hin.succ hb⟩
        case measure => simp [intOf]; omega
    · go_wp2
      go_ret
      refine ⟨ret_bool ?_, rfl⟩
      have : xs.all (inB 0 30) = true := all_iff_gi.2 fun j hj => hin.at_ hlt (by rw [← HL.out]; exact hj)
      simp [spansL, this, HL.out]
      try omega

def hasL (xs : List Int) (v : Int) : Bool := decide (v ∈ xs)
theorem mem_gi {xs : List Int} {v : Int} : v ∈ xs ↔ ∃ k, k < xs.length ∧ gi xs k = v := by
  constructor
  · intro h
    obtain ⟨k, hk, rfl⟩ := List.mem_iff_getElem.1 h
    exact ⟨k, hk, by unfold gi; rw [List.getD_eq_getElem?_getD, List.getElem?_eq_getElem hk]; rfl⟩
  · rintro ⟨k, hk, rfl⟩; exact gi_mem hk

set_option maxHeartbeats 400000 in
theorem l1Has_any (A : Option Addr) (n c : Nat) (xs : List Int) (v : Int) (w : World) (h : RI w A n xs) :
    Calls Try.prog 46 #[.slice A n c, .int .i64 v] w fun e w' => e = .returned (.bool (hasL xs v)) ∧ w = w' := by
  have hm := h.max
  have HL := Lib.hid h.len
  have HC := Lib.hid h.at_
  clear h
  go_enter Try.func46, Try.ntmps46
  go_wp2
  go_loop [5] (fun i => ∃ k : Nat, k ≤ n ∧ i = .int .i64 k ∧ AllTo (fun j => !(gi xs j == v)) k) (fun i => n - (intOf i).toNat)
  case atStart => exact ⟨0, Nat.zero_le _, rfl, AllTo.zero _⟩
  case round =>
    obtain ⟨k, hk, rfl, hin⟩ := hrel
    by_cases hlt : k < n
    · obtain ⟨ad, rfl, hcell⟩ := HC.out k hlt
      cases hb : (gi xs k == v)
      · go_wp2
        go_round
        case rel => exact ⟨k + 1, by omega, by go_num, hin.succ (by simp [hb])⟩
        case measure => simp [intOf]; omega
      · go_wp2
        go_ret
        refine ⟨ret_bool ?_, rfl⟩
        unfold hasL
        have : v ∈ xs := mem_gi.2 ⟨k, by rw [HL.out]; exact hlt, by simpa using hb⟩
        simp [this]
    · go_wp2
      go_ret
      refine ⟨ret_bool ?_, rfl⟩
      unfold hasL
      have : v ∉ xs := fun hh => by
        obtain ⟨j, hj, e⟩ := mem_gi.1 hh
        have := hin.at_ hlt (by rw [← HL.out]; exact hj)
        simp [e] at this
      simp [this]

/-- the k-th index of an order is right, and new -/
def okAt (xs : List Int) (many : Int) (k : Nat) : Bool := inB 0 (many - 1) (gi xs k) && !(hasL (xs.take k) (gi xs k))
def orderL (xs : List Int) (many : Int) : Bool := decide ((xs.length : Int) = many) && (List.range xs.length).all (okAt xs many)
theorem orderL_ne {xs : List Int} {many : Int} (h : ¬ (xs.length : Int) = many) : orderL xs many = false := by simp [orderL, h]
theorem orderL_bad {xs : List Int} {many : Int} {k : Nat} (hk : k < xs.length) (h : okAt xs many k = false) : orderL xs many = false := by
  unfold orderL
  have : (List.range xs.length).all (okAt xs many) = false := by
    rw [← Bool.not_eq_true, List.all_eq_true]
    intro hh
    have := hh k (List.mem_range.2 hk)
    rw [h] at this; cases this
  rw [this, Bool.and_false]
theorem orderL_ok {xs : List Int} {many : Int} (hl : (xs.length : Int) = many) (h : ∀ k, k < xs.length → okAt xs many k = true) : orderL xs many = true := by
  unfold orderL
  rw [Bool.and_eq_true, List.all_eq_true]
  exact ⟨by simpa using hl, fun k hk => h k (List.mem_range.1 hk)⟩

/-- the same with the bound as the machine reckons it -/
def okW (xs : List Int) (m' : Int) (k : Nat) : Bool := inB 0 m' (gi xs k) && !(hasL (xs.take k) (gi xs k))

set_option maxHeartbeats 1000000 in
theorem specOrderOk_w (A : Option Addr) (n c : Nat) (xs : List Int) (many m' : Int) (w : World) (h : RI w A n xs) (hc : n ≤ c) (_hw1 : wrap64 (many - 1) = m') (hw2 : IntKind.i64.wrap (many - 1) = m') (r : Bool)
    (hr1 : ∀ k, k < n → okW xs m' k = false → r = false) (hr2 : (∀ k, k < n → okW xs m' k = true) → r = decide ((n : Int) = many)) :
    Calls Try.prog 18 #[.slice A n c, .int .i64 many] w fun e w' => e = .returned (.bool r) ∧ ∃ q, w' = w.drewN q := by
  have hm := h.max
  have HL := Lib.hid h.len
  have HC := Lib.hid h.at_
  have HR := Lib.hid h
  have R1 := Lib.hid hr1
  have R2 := Lib.hid hr2
  clear h hr1 hr2
  go_enter Try.func18, Try.ntmps18
  go_wp2
  go_loopw [5] (fun i wr => ∃ k : Nat, k ≤ n ∧ i = .int .i64 k ∧ (∃ q, wr = w.drewN q) ∧ AllTo (okW xs m') k) (fun i _ => n - (intOf i).toNat)
  case atStart => exact ⟨0, Nat.zero_le _, rfl, ⟨0, rfl⟩, AllTo.zero _⟩
  case round =>
    obtain ⟨k, hk, rfl, ⟨q, rfl⟩, hin⟩ := hrel
    by_cases hlt : k < n
    · obtain ⟨ad, rfl, hcell⟩ := HC.out k hlt
      have hkc : k ≤ c := by omega
      cases hb : inB 0 m' (gi xs k)
      · go_wp2
        go_quiet ((go_at_call 44; exact quiet_al (l1In_any _ _ _ _)))
        go_wp2
        go_ret
        exact ⟨ret_bool (R1.out k hlt (by simp [okW, hb])).symm, _, World.drewN_drewN _ _ _⟩
      · cases hb2 : hasL (xs.take k) (gi xs k)
        · go_wp2
          go_quiet ((first | (go_at_call 44; exact quiet_al (l1In_any _ _ _ _)) | (go_at_call 46; exact quiet_al (l1Has_any _ _ _ (xs.take k) _ _ ((HR.out.take hk).drewN _)))))
          go_wp2
          go_roundw
          case rel => exact ⟨k + 1, by omega, by go_num, ⟨_, rfl⟩, hin.succ (by simp [okW, hb, hb2])⟩
          case measure => simp [intOf]; omega
        · go_wp2
          go_quiet ((first | (go_at_call 44; exact quiet_al (l1In_any _ _ _ _)) | (go_at_call 46; exact quiet_al (l1Has_any _ _ _ (xs.take k) _ _ ((HR.out.take hk).drewN _)))))
          go_wp2
          go_ret
          exact ⟨ret_bool (R1.out k hlt (by simp [okW, hb, hb2])).symm, _, World.drewN_drewN _ _ _⟩
    · go_wp2
      go_ret
      refine ⟨ret_bool ?_, q, rfl⟩
      rw [R2.out fun j hj => hin.at_ hlt hj]
      by_cases e : (n : Int) = many <;> simp [e]

theorem specOrderOk_any (A : Option Addr) (n c : Nat) (xs : List Int) (many : Int) (w : World) (h : RI w A n xs) (hc : n ≤ c) :
    Calls Try.prog 18 #[.slice A n c, .int .i64 many] w fun e w' => e = .returned (.bool (orderL xs many)) ∧ ∃ q, w' = w.drewN q := by
  have hl := h.len
  have hm := h.max
  refine specOrderOk_w A n c xs many (wrap64 (many - 1)) w h hc rfl (by rw [IntKind.wrap_i64, wrap64]) _ (fun k hk hb => ?_) (fun hall => ?_)
  · by_cases e : (n : Int) = many
    · refine orderL_bad (k := k) (by omega) ?_
      rw [IntWalk.wrap64_in _ (by omega)] at hb
      exact hb
    · exact orderL_ne (by rw [hl]; exact e)
  · by_cases e : (n : Int) = many
    · rw [orderL_ok (by rw [hl]; exact e) fun k hk => ?_]
      · simp [e]
      · have := hall k (by omega)
        rw [IntWalk.wrap64_in _ (by omega)] at this
        exact this
    · rw [orderL_ne (by rw [hl]; exact e)]
      simp [e]

theorem infoBool : (Try.prog.info? 4).map (fun i => (i.zero, i.size, i.bytes)) = some (some (.bool false), 1, 1) := by kernel_rfl

theorem hasL_take_succ (xs : List Int) (k : Nat) (hk : k < xs.length) (v : Int) : hasL (xs.take (k + 1)) v = (hasL (xs.take k) v || (gi xs k == v)) := by
  have : xs.take (k + 1) = xs.take k ++ [gi xs k] := by
    rw [List.take_add_one, gi_getElem? hk]; rfl
  unfold hasL
  rw [this]
  by_cases h1 : v ∈ xs.take k <;> by_cases h2 : gi xs k = v
  · simp [h1]
  · simp [h1]
  · subst h2; simp
  · have h3 : ¬ v = gi xs k := fun e => h2 e.symm
    simp [h1, h2, h3]

set_option maxHeartbeats 1000000 in
theorem implOrderOk_any (A : Option Addr) (n c : Nat) (xs : List Int) (many : Int) (w : World) (h : RI w A n xs) (hn : n ≤ 1048576) :
    Calls Try.prog 19 #[.slice A n c, .int .i64 many] w fun e w' => e = .returned (.bool (orderL xs many)) ∧ Le w w' := by
  have HL := Lib.hid h.len
  have HC := Lib.hid h.at_
  clear h
  by_cases hmn : (n : Int) = many
  · have hm0 : many ≤ 1048576 := by omega
    obtain ⟨m, rfl⟩ : ∃ m : Nat, many = m := ⟨n, hmn.symm⟩
    obtain rfl : n = m := by omega
    clear hmn
    have hmk := run_mk (P := Try.prog) 51 4 (.bool false) 1 1 Try.underlying51 infoBool n (by omega) (by omega)
    go_enter Try.func19, Try.ntmps19
    go_wp2
    clear hmk
    go_loopw [16] (fun i wr => ∃ k : Nat, k ≤ n ∧ i = .int .i64 k ∧ Le w wr ∧ AllTo (okAt xs n) k ∧ ∃ cs, Blk wr w.heap.size 4 cs ∧ cs.size = n ∧ ∀ j, j < n → cs[j]? = some (.bool (hasL (xs.take k) j))) (fun i _ => n - (intOf i).toNat)
    case atStart =>
      refine ⟨0, Nat.zero_le _, rfl, (Le.refl _).alloc _, AllTo.zero _, _, Blk.new _ _ _, by simp [made_size], fun j hj => ?_⟩
      have := made_get (.bool false) n j hj
      simpa [hasL] using this
    case round =>
      obtain ⟨k, hk, rfl, hle, hin, cs, hblk, hsz, hcs⟩ := hrel
      by_cases hlt : k < n
      · obtain ⟨ad, rfl, hcell0⟩ := HC.out k hlt
        have hcell := hle.cell hcell0
        clear hcell0
        have HS := Lib.hid hsz
        have HCS := Lib.hid hcs
        clear hsz hcs
        by_cases hr : 0 ≤ gi xs k ∧ gi xs k < n
        · obtain ⟨v, hv⟩ : ∃ v : Nat, gi xs k = v := ⟨(gi xs k).toNat, by omega⟩
          have HV := Lib.hid hv
          have hr2 : v < n := by omega
          rw [hv] at hcell
          clear hr hv
          have hseen := (hblk.cell v).trans (HCS.out v hr2)
          have hfz := hblk.frozen v
          cases hb : hasL (xs.take k) v
          · rw [hb] at hseen
            go_wp2
            go_roundw
            case rel =>
              have ok : okAt xs n k = true := by
                have := HV.out
                unfold okAt
                rw [this, hb, inB_t.2 (by omega)]
                rfl
              refine ⟨k + 1, by omega, by go_num, hle.setCell (Nat.le_refl _) _, hin.succ ok, _, hblk.set_ _ _, by simp [HS.out], fun j hj => ?_⟩
              rw [hasL_take_succ _ _ (by rw [HL.out]; exact hlt), HV.out, Array.getElem?_setIfInBounds]
              split
              · rename_i e; subst e; simp [HS.out, hj]
              · rename_i e
                rw [HCS.out j hj]
                have : ((v : Int) == (j : Int)) = false := by rw [beq_eq_false_iff_ne]; omega
                rw [this, Bool.or_false]
            case measure => simp [intOf]; omega
          · rw [hb] at hseen
            go_wp2
            go_ret
            refine ⟨ret_bool (orderL_bad (k := k) (by rw [HL.out]; exact hlt) ?_).symm, hle⟩
            unfold okAt
            rw [HV.out, hb]
            simp
        · have hbad : orderL xs n = false := orderL_bad (k := k) (by rw [HL.out]; exact hlt) (by
            unfold okAt
            rw [inB_f.2 (by omega)]
            rfl)
          have HB := Lib.hid hbad
          clear hbad
          by_cases hr0 : gi xs k < 0
          · go_wp2
            go_ret
            exact ⟨ret_bool HB.out.symm, hle⟩
          · have hr1 : (n : Int) ≤ gi xs k := by omega
            go_wp2
            go_ret
            exact ⟨ret_bool HB.out.symm, hle⟩
      · go_wp2
        go_ret
        exact ⟨ret_bool (orderL_ok (by rw [HL.out]) fun j hj => hin.at_ hlt (by rw [← HL.out]; exact hj)).symm, hle⟩
  · have hne : ((n : Int) != many) = true := by simpa using hmn
    go_enter Try.func19, Try.ntmps19
    go_wp2
    go_ret
    exact ⟨ret_bool (orderL_ne (by rw [HL.out]; exact hmn)).symm, Le.refl _⟩

end Go.Proofs.Ytedopialmhpalaa
