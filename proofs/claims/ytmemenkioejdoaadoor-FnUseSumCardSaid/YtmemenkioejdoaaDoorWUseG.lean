/- Walks: UseFirst of the reference and of the program. -/
import Derived.Test.YtmemenkioejdoaaDoorWUseF
namespace Go.Proofs.YtmemenkioejdoaaDoor
open Go.RowKit

theorem OwnL.congr {w : World} {lo hi : Nat} {v : Value} {n : Nat} {h : Nat → Value} {ts ts' : Nat → List Int} (o : OwnL w lo hi v n h ts) (he : ∀ j, j < n → ts j = ts' j) : OwnL w lo hi v n h ts' :=
  ⟨o.outer, o.otop, fun j hj => by rw [← he j hj]; exact o.row j hj, o.rtop, o.apart0, o.apart, o.small.1, fun j hj => by rw [← he j hj]; exact o.small.2 j hj⟩
theorem OwnL.empty (w : World) (h : Nat → Value) (ts : Nat → List Int) : OwnL (w.alloc (.cells #[] 27)) w.heap.size (w.alloc (.cells #[] 27)).heap.size (.slice (some ⟨w.heap.size, 0, none⟩) 0 0) 0 h ts :=
  ⟨own_empty w 27 1, fun g hg => ((own_empty w 27 1).lt g hg).2, fun j hj => absurd hj (by omega), fun j hj => absurd hj (by omega), fun j hj => absurd hj (by omega), fun i j _ hj => absurd hj (by omega), Nat.zero_le _, fun j hj => absurd hj (by omega)⟩
theorem OwnL.hi_ {w : World} {lo hi hi' : Nat} {v : Value} {n : Nat} {h : Nat → Value} {ts : Nat → List Int} (o : OwnL w lo hi v n h ts) (hh : hi ≤ hi') : OwnL w lo hi' v n h ts :=
  ⟨o.outer, fun g hg => Nat.lt_of_lt_of_le (o.otop g hg) hh, o.row, fun j hj g hg => Nat.lt_of_lt_of_le (o.rtop j hj g hg) hh, o.apart0, o.apart, o.small⟩

set_option maxRecDepth 20000 in
set_option maxHeartbeats 4000000 in
theorem specUseFirst_any (A B : Option Addr) (n m c d : Nat) (ps : List (Int × Int)) (ws : List Int) (w : World) (h : RP w A n ps) (h' : RI w B m ws) :
    Calls Tryd.prog 16 #[.slice A n c, .slice B m d] w fun e w' => ∃ v h, e = .returned v ∧ OwnL w' w.heap.size w'.heap.size v (useFirstL ps ws).length h (gl (useFirstL ps ws)) ∧ Le w w' := by
  have hv := fun w' (l : Le w w') => specLotsValid_any A n c ps w' (h.le l)
  have hw := fun w' (l : Le w w') => specWantsValid_any B m d ws w' (h'.le l)
  have l0 := (Le.refl w).alloc (.cells #[] 27)
  cases hb : lotsL ps
  · simp only [hb] at hv
    have e0 : useFirstL ps ws = [] := by simp [useFirstL, hb]
    rw [e0]
    have HV := Lib.hid (hv _ l0)
    clear hv hb e0 h hw h'
    go_enter Tryd.func16, Tryd.ntmps16
    go_wp2_with (go_at_call 18; refine HV.out.mono ?_; rintro e w1 ⟨rfl, rfl⟩)
    go_ret
    exact ⟨_, fun _ => .slice none 0 0, rfl, OwnL.empty _ _ _, l0⟩
  · simp only [hb] at hv
    cases hb2 : wantsL ws
    · simp only [hb2] at hw
      have e0 : useFirstL ps ws = [] := by simp [useFirstL, hb2]
      rw [e0]
      have HV := Lib.hid (hv _ l0)
      have HW := Lib.hid (hw _ l0)
      clear hv hb hb2 e0 h hw h'
      go_enter Tryd.func16, Tryd.ntmps16
      go_wp2_with (first | (go_at_call 18; refine HV.out.mono ?_; rintro e w1 ⟨rfl, rfl⟩) | (go_at_call 19; refine HW.out.mono ?_; rintro e w1 ⟨rfl, rfl⟩))
      go_ret
      exact ⟨_, fun _ => .slice none 0 0, rfl, OwnL.empty _ _ _, l0⟩
    · simp only [hb2] at hw
      obtain ⟨hm6, _⟩ := wants_facts h'.len hb2
      have e0 : useFirstL ps ws = (List.range m).map (takeAtF ps ws) := by unfold useFirstL; rw [hb, hb2, Bool.true_and, if_pos rfl, h'.len]
      have e1 : (useFirstL ps ws).length = m := by rw [e0]; simp
      have e2 : ∀ j, j < m → takeAtF ps ws j = gl (useFirstL ps ws) j := fun j hj => by rw [e0, gl_range _ _ hj]
      have HV := Lib.hid (hv _ l0)
      have HW := Lib.hid (hw _ l0)
      have HP := Lib.hid (h.le l0)
      have HC := Lib.hid h'.at_
      have HE1 := Lib.hid e1
      have HE2 := Lib.hid e2
      have HL0 := Lib.hid l0
      clear hv hb hb2 e0 h hw h' e1 e2 l0
      obtain ⟨i0, hi0, hz0, hz1, hz2⟩ := info_parts infoRow
      go_enter Tryd.func16, Tryd.ntmps16
      go_wp2_with (first | (go_at_call 18; refine HV.out.mono ?_; rintro e w1 ⟨rfl, rfl⟩) | (go_at_call 19; refine HW.out.mono ?_; rintro e w1 ⟨rfl, rfl⟩))
      go_loopw [0, 5, 6] (fun lots out i wr => ∃ k : Nat, k ≤ m ∧ i = .int .i64 k ∧ Le w wr ∧ (∃ A' n' c', lots = .slice A' n' c' ∧ RP wr A' n' (restF ps ws k)) ∧ ∃ h, OwnL wr w.heap.size wr.heap.size out k h (takeAtF ps ws)) (fun _ _ i _ => m - (intOf i).toNat)
      case atStart => exact ⟨0, Nat.zero_le _, rfl, HL0.out, ⟨A, n, c, rfl, HP.out⟩, fun _ => .slice none 0 0, OwnL.empty _ _ _⟩
      case round =>
        obtain ⟨k, hk, rfl, hle, ⟨A', n', c', rfl, hrp⟩, h, ho⟩ := hrel
        by_cases hlt : k < m
        · obtain ⟨ad, rfl, hc1⟩ := HC.out k hlt
          have c1 := hle.cell hc1
          have hs5 := takeFirstL_small (restF ps ws k) k (gi ws k)
          have htf := slice_ret (specTakeFirst_any A' n' c' (restF ps ws k) k (gi ws k) wr hrp) (by omega)
          have htd := fun (A2 : Option Addr) (c2 : Nat) w1 (l1 : Le wr w1) (r : RI w1 A2 (takeFirstL (restF ps ws k) k (gi ws k)).length (takeFirstL (restF ps ws k) k (gi ws k))) =>
            slice_retPB (specTakeDo_any A' A2 n' _ c' c2 (restF ps ws k) k _ w1 (hrp.le l1) r) (takeDoR_small _ _ _)
          have HTF := Lib.hid htf
          have HTD := Lib.hid htd
          have HO := Lib.hid ho
          have HLE := Lib.hid hle
          clear hc1 htf htd ho hrp hle
          go_wp2_with (first
            | (go_at_call 27; refine HTF.out.mono ?_; rintro e w1 ⟨A2, c2, rfl, r2, o2, l1⟩)
            | (go_at_call 20; refine (HTD.out A2 c2 w1 l1 r2).mono ?_; rintro e w2 ⟨A3, c3, rfl, r3, o3, l2⟩)
            | (at_builtin; refine wpList_append_own_at _ rfl (.tmp 40) (.tmp 42) _ rfl w.heap.size 27 i0 (.slice none 0 0) 1 24 Tryd.underlying23 hi0 hz0 hz1 hz2 rfl (by decide) _ k ((List.range k).map h) rfl ?hown ⟨w2.heap.size, 0, none⟩ 1 1 [.slice A2 (takeFirstL (restF ps ws k) k (gi ws k)).length c2] rfl rfl ?c1 ?c2 ?c3 ?c4 ?c5 ?_))
          case hown => exact own_Le HO.out.outer ((l1.trans l2).alloc _)
          case c1 => exact cell_one' _ _ rfl _ _
          case c2 => intro u hu; simp at hu; rcases hu with rfl; rfl
          case c3 => unfold maxLen; omega
          case c4 => omega
          case c5 => have h1 := HLE.out.size; have h2 := l1.size; have h3 := l2.size; simp; omega
          intro v' w3 hown' hgrow _ hat
          have hls := HLE.out.size
          have hpu := HO.out.push (b := wr.heap.size) (w2 := w2.alloc (.cells #[.slice A2 (takeFirstL (restF ps ws k) k (gi ws k)).length c2] 27)) ((l1.trans l2).alloc _) hls (Nat.le_refl _) (take := .slice A2 (takeFirstL (restF ps ws k) k (gi ws k)).length c2) (own_Le o2 (l2.alloc _)) hown' hgrow
            (fun g hg => by
              rcases hat with e | e
              · exact .inl (e ▸ hg)
              · rw [e] at hg; injection hg with hg; exact .inr (by rw [World.size_alloc]; omega)) (by omega) (show (takeFirstL (restF ps ws k) k (gi ws k)).length ≤ 1048576 by omega)
          have o4 : w3.ownsRow w1.heap.size 44 2 (.slice A3 (takeDoR (restF ps ws k) k (takeFirstL (restF ps ws k) k (gi ws k))).length c3) (takeDoR (restF ps ws k) k (takeFirstL (restF ps ws k) k (gi ws k))).length (pairs (takeDoR (restF ps ws k) k (takeFirstL (restF ps ws k) k (gi ws k)))) := by
            refine own_gb (own_Le o3 ((Le.refl _).alloc _)) hgrow fun g hg => ?_
            have h1 := (HO.out.outer.lt g hg).2
            have h2 := l1.size
            omega
          have r4 := own_RP2 o4 (takeDoR_small _ _ _)
          have hle3 : Le w w3 := ((HLE.out.trans (l1.trans l2)).alloc _).grown hgrow fun g hg => (HO.out.outer.lt g hg).1
          have HPU := Lib.hid hpu
          have HR4 := Lib.hid r4
          have HL3 := Lib.hid hle3
          clear hpu r4 hle3 o4 o3 r3 r2 o2 hown' hgrow hat
          go_wp2
          go_roundw
          case rel => exact ⟨k + 1, by omega, by go_num, HL3.out, ⟨_, _, _, rfl, HR4.out⟩, _, HPU.out⟩
          case measure => simp [intOf]; omega
        · obtain rfl : k = m := by omega
          go_wp2
          go_ret
          rw [HE1.out]
          exact ⟨_, h, rfl, ho.congr HE2.out, hle⟩

end Go.Proofs.YtmemenkioejdoaaDoor
