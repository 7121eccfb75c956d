/- Walk: BurnLeast of the reference. -/
import Derived.Test.YtedopialmhpalaaWCookF
namespace Go.Proofs.Ytedopialmhpalaa
open Go.RowKit

theorem maxTo_nonneg (f : Nat → Int) (k : Nat) : 0 ≤ maxTo f k := by
  induction k with
  | zero => simp [maxTo]
  | succ k ih => rw [maxTo_succ]; omega
theorem endAt_nonneg {spans : List Int} {bn : Nat} (hs : spansL spans = true) (hb1 : 1 ≤ bn) (hb3 : bn ≤ 3) (t : Nat) : 0 ≤ endAt spans bn spans.length t := by
  unfold endAt burnEndL
  have : burnOkL spans bn (digs bn t spans.length) = true := by
    unfold burnOkL amountsOkL
    rw [hs, inB_t.2 (by omega), digs_length]
    simp only [Bool.true_and, Bool.and_eq_true, decide_eq_true_eq, true_and]
    rw [List.all_eq_true]
    intro x hx
    have := digs_lt (b := bn) (by omega) t _ x hx
    exact inB_t.2 (by omega)
  rw [this, if_pos rfl]
  exact maxTo_nonneg _ _
/-- the best of the first t -/
def bestTo (f : Nat → Int) : Nat → Int
  | 0 => -1
  | t + 1 => minN f t
theorem bestTo_step {f : Nat → Int} (h : ∀ t, 0 ≤ f t) (t : Nat) : bestTo f (t + 1) = if bestTo f t < 0 ∨ f t < bestTo f t then f t else bestTo f t := by
  cases t with
  | zero => simp [bestTo, minN]
  | succ t =>
    have := minN_nonneg h t
    have := h (t + 1)
    rw [show bestTo f (t + 1 + 1) = minN f (t + 1) from rfl, show bestTo f (t + 1) = minN f t from rfl, minN_succ]
    by_cases hh : minN f t < 0 ∨ f (t + 1) < minN f t
    · rw [if_pos hh]; omega
    · rw [if_neg hh]; omega

theorem own_drew' {w : World} {base : Nat} {e : TypeId} {size : Nat} {v : Value} {n : Nat} {xs : List Value} (h : w.ownsRow base e size v n xs) : w.ownsRow base e size v n xs := h
theorem cell_one' (w : World) (n : Nat) (hn : w.heap.size = n) (v : Value) (t : TypeId) : ∀ j u, [v][j]? = some u → (w.alloc (.cells #[v] t)).cell? ((⟨n, 0, none⟩ : Addr).add j) = some u := by
  subst hn
  exact cell_one_new w v t

set_option maxHeartbeats 2000000 in
theorem specBurnLeast_any (A : Option Addr) (n c : Nat) (spans : List Int) (burners : Int) (w : World) (h : RI w A n spans) :
    Calls Try.prog 40 #[.slice A n c, .int .i64 burners] w fun e w' => e = .returned (.int .i64 (burnLeastL spans burners)) ∧ Le w w' := by
  have hc := specSpansValid_any A n c spans w h
  cases hs : spansL spans
  · have e0 : burnLeastL spans burners = -1 := by simp [burnLeastL, hs]
    rw [hs] at hc
    rw [e0]
    have HC := Lib.hid hc
    clear hc hs e0
    go_enter Try.func40, Try.ntmps40
    go_wp2_with (go_at_call 14; refine HC.out.mono ?_; rintro e w' ⟨rfl, rfl⟩)
    go_ret
    exact ⟨rfl, Le.refl _⟩
  · rw [hs] at hc
    have HC := Lib.hid hc
    cases hbr : inB 1 3 burners
    · have e0 : burnLeastL spans burners = -1 := by simp [burnLeastL, hbr]
      rw [e0]
      clear hc e0
      go_enter Try.func40, Try.ntmps40
      go_wp2_with (first
        | (go_at_call 14; refine HC.out.mono ?_; rintro e w' ⟨rfl, rfl⟩)
        | (go_at_call 44; refine (l1In_any _ _ _ _).mono ?_; rintro e w' ⟨rfl, rfl⟩))
      go_ret
      exact ⟨rfl, Le.refl _⟩
    · have e0 : burnLeastL spans burners = minN (endAt spans burners.toNat spans.length) (burners.toNat ^ spans.length - 1) := by
        unfold burnLeastL; rw [hs, hbr]; rfl
      obtain ⟨hn6, hsp⟩ := spans_bound hs
      obtain ⟨hb1, hb3⟩ := inB_t.1 hbr
      obtain ⟨bn, rfl⟩ : ∃ bn : Nat, burners = bn := ⟨burners.toNat, by omega⟩
      rw [show ((bn : Int)).toNat = bn by omega, h.len] at e0
      have hf0 : ∀ t, 0 ≤ endAt spans bn n t := fun t => by rw [← h.len]; exact endAt_nonneg hs (by omega) (by omega) t
      have hbe : ∀ t, endAt spans bn n t ≤ 180 := fun t => (burnEndL_le spans _ _ hsp hn6).2
      have hmn : ∀ t, bestTo (endAt spans bn n) t ≤ 180 ∧ -1 ≤ bestTo (endAt spans bn n) t := fun t => by
        cases t with
        | zero => simp [bestTo]
        | succ t =>
          have h1 := minN_nonneg hf0 t
          refine ⟨?_, by simp only [bestTo]; omega⟩
          simp only [bestTo]
          clear h1
          induction t with
          | zero => exact hbe 0
          | succ t ih => rw [minN_succ]; omega
      rw [h.len] at hn6
      have hpw : ∀ k, k ≤ n → 1 ≤ bn ^ k ∧ bn ^ k ≤ 729 := fun k hk => pow_le (by omega) (by omega) (by omega)
      have HE := Lib.hid e0
      have HF0 := Lib.hid hf0
      have HBE := Lib.hid hbe
      have HMN := Lib.hid hmn
      have HPW := Lib.hid hpw
      have HR := Lib.hid h
      clear hc e0 h hsp hbe hf0 hmn hpw
      obtain ⟨i0, hi0, hz0, hz1, hz2⟩ := info_parts infoInt
      go_enter Try.func40, Try.ntmps40
      go_wp2_with (first
        | (go_at_call 14; refine HC.out.mono ?_; rintro e w' ⟨rfl, rfl⟩)
        | (go_at_call 44; refine (l1In_any _ _ _ _).mono ?_; rintro e w' ⟨rfl, rfl⟩))
      go_loop [6, 7] (fun v i => ∃ k : Nat, k ≤ n ∧ i = .int .i64 k ∧ v = .int .i64 ((bn ^ k : Nat) : Int)) (fun _ i => n - (intOf i).toNat)
      case atStart => exact ⟨0, Nat.zero_le _, rfl, rfl⟩
      case round =>
        obtain ⟨k, hk, rfl, rfl⟩ := hrel
        obtain ⟨p1, p2⟩ := HPW.out k hk
        generalize hpk : bn ^ k = pk at *
        have HPK := Lib.hid hpk
        clear hpk
        by_cases hlt : k < n
        · have m1 : ((pk : Int) * (bn : Int)) ≤ 729 * 3 := by
            have : pk * bn ≤ 729 * 3 := Nat.mul_le_mul p2 (by omega)
            have e : ((pk * bn : Nat) : Int) ≤ ((729 * 3 : Nat) : Int) := by omega
            simpa using e
          have m2 : 0 ≤ (pk : Int) * (bn : Int) := Int.mul_nonneg (by omega) (by omega)
          go_wp2
          go_round
          case rel =>
            refine ⟨k + 1, by omega, by go_num, ?_⟩
            rw [Nat.pow_succ, HPK.out]
            simp
          case measure => simp [intOf]; omega
        · obtain rfl : k = n := by omega
          go_wp2
          go_loopw [5, 8] (fun v i wr => ∃ t : Nat, t ≤ pk ∧ i = .int .i64 t ∧ v = .int .i64 (bestTo (endAt spans bn k) t) ∧ Le w wr) (fun _ i _ => pk - (intOf i).toNat)
          case atStart => exact ⟨0, Nat.zero_le _, rfl, rfl, Le.refl _⟩
          case round =>
            obtain ⟨t, ht, rfl, rfl, hle⟩ := hrel
            have HLE := Lib.hid hle
            clear hle
            by_cases hltt : t < pk
            · go_wp2
              obtain ⟨wo, hwo⟩ : ∃ wo : World, wo = wr := ⟨_, rfl⟩
              rw [← hwo]
              subst hwo
              go_loopw [9, 10, 11] (fun v r i ws => ∃ (j rest : Nat) (D : List Int) (B : Option Addr) (d : Nat), j ≤ k ∧ i = .int .i64 j ∧ r = .int .i64 rest ∧ rest ≤ t ∧ v = .slice B j d ∧ ws.ownsRow wo.heap.size 3 1 (.slice B j d) j (ints D) ∧ digs bn t k = D ++ digs bn rest (k - j) ∧ Le wo ws) (fun _ _ i _ => k - (intOf i).toNat)
              case atStart =>
                refine ⟨0, t, [], _, _, by omega, rfl, rfl, Nat.le_refl _, rfl, ?_, by simp, (Le.refl _).alloc _⟩
                exact World.ownsRow_made _ #[] 0 (Nat.le_refl _) (by unfold maxLen; omega) (by simp)
              case round =>
                obtain ⟨j, rest, D, B, d, hj, rfl, rfl, hrt, rfl, hown, hdg, hlo⟩ := hrel
                have HO := Lib.hid hown
                have HD := Lib.hid hdg
                have HLO := Lib.hid hlo
                clear hown hdg hlo
                by_cases hltj : j < k
                · go_wp2_with (at_builtin; refine wpList_append_own_at _ rfl (.tmp 43) (.tmp 47) _ rfl wo.heap.size 3 i0 (.int .i64 0) 1 8 Try.underlying23 hi0 hz0 hz1 hz2 rfl (by decide) _ j (ints D) rfl ?hown ⟨wr.heap.size, 0, none⟩ 1 1 [.int .i64 ((rest : Int) % (bn : Int))] rfl rfl ?c1 ?c2 ?c3 ?c4 ?c5 ?_)
                  case hown => exact own_drew' (HO.out.alloc _)
                  case c1 => exact cell_one' _ _ rfl _ _
                  case c2 => intro u hu; simp at hu; subst hu; rfl
                  case c3 => unfold maxLen; omega
                  case c4 => omega
                  case c5 => have h2 := HLO.out.size; simp; omega
                  · intro v' w1 hown' hgrow _ hat
                    have e0 : digs bn rest (k - j) = ((rest % bn : Nat) : Int) :: digs bn (rest / bn) (k - (j + 1)) := by
                      rw [show k - j = (k - (j + 1)) + 1 by omega]; rfl
                    have hr2 : rest / bn ≤ t := Nat.le_trans (Nat.div_le_self _ _) hrt
                    have hown2 : w1.ownsRow wo.heap.size 3 1 v' (j + 1) (ints (D ++ [((rest % bn : Nat) : Int)])) := by
                      rw [ints_append]
                      simpa [ints] using hown'
                    have hform : ∃ B' d', v' = .slice B' (j + 1) d' := by
                      obtain ⟨B', d', e, _⟩ := own_RI hown2 (by omega)
                      exact ⟨B', d', e⟩
                    have HO2 := Lib.hid hown2
                    have HG := Lib.hid hgrow
                    have HA := Lib.hid hat
                    have HFM := Lib.hid hform
                    have HE0 := Lib.hid e0
                    clear hown' hown2 hgrow hat hform e0
                    go_wp2
                    go_roundw
                    case rel =>
                      obtain ⟨B', d', e⟩ := HFM.out
                      subst e
                      refine ⟨j + 1, rest / bn, D ++ [((rest % bn : Nat) : Int)], B', d', by omega, by go_num, ?_, hr2, rfl, HO2.out, ?_, ?_⟩
                      · have e1 : (rest : Int) / (bn : Int) = ((rest / bn : Nat) : Int) := by simp
                        rw [e1]
                        generalize rest / bn = z at hr2 ⊢
                        rw [IntWalk.wrap64_in _ (by omega)]
                      · rw [HD.out, HE0.out, List.append_assoc]; rfl
                      · exact (HLO.out.alloc _).grown HG.out fun g hg => (HO.out.lt g hg).1
                    case measure => simp [intOf]; omega
                · obtain rfl : j = k := by omega
                  have hD : D = digs bn t j := by rw [HD.out]; simp [digs]
                  have hrd := own_RI HO.out (by omega)
                  obtain ⟨B', d', e, hri⟩ := hrd
                  injection e with e1 e2 e3
                  subst e1
                  rw [hD] at hri
                  have HRI := Lib.hid hri
                  have HD2 := Lib.hid hD
                  clear hri hD e2 e3
                  obtain ⟨b1, b2⟩ := HMN.out t
                  have b3 := HF0.out t
                  have b4 := HBE.out t
                  go_wp2_with fail
                  refine (specBurnEnd_any _ _ _ _ _ _ _ (digs bn t j) _ _ (HR.out.le (HLE.out.trans HLO.out)) HRI.out).mono ?_; rintro e w' ⟨rfl, rfl⟩
                  rw [show burnEndL spans bn (digs bn t j) = endAt spans bn j t from rfl]
                  have hst := bestTo_step HF0.out t
                  have HST := Lib.hid hst
                  clear hst
                  by_cases hb0 : bestTo (endAt spans bn j) t < 0
                  · go_wp2
                    go_roundw
                    case rel => exact ⟨t + 1, by omega, by go_num, by rw [HST.out, if_pos (.inl hb0)], HLE.out.trans HLO.out⟩
                    case measure => simp [intOf]; omega
                  · by_cases hb1 : endAt spans bn j t < bestTo (endAt spans bn j) t
                    · go_wp2
                      go_roundw
                      case rel => exact ⟨t + 1, by omega, by go_num, by rw [HST.out, if_pos (.inr hb1)], HLE.out.trans HLO.out⟩
                      case measure => simp [intOf]; omega
                    · go_wp2
                      go_roundw
                      case rel => exact ⟨t + 1, by omega, by go_num, by rw [HST.out, if_neg (by omega)], HLE.out.trans HLO.out⟩
                      case measure => simp [intOf]; omega
            · obtain rfl : t = pk := by omega
              go_wp2
              go_ret
              refine ⟨?_, HLE.out⟩
              rw [HE.out, HPK.out]
              obtain ⟨u, rfl⟩ : ∃ u, t = u + 1 := ⟨t - 1, by omega⟩
              rfl

end Go.Proofs.Ytedopialmhpalaa
