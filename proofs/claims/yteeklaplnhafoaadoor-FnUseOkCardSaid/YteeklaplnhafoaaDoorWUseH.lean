/- Walk: UseFirst of the program. -/
import Derived.Test.YteeklaplnhafoaaDoorWUseG
namespace Go.Proofs.YteeklaplnhafoaaDoor
open Go.RowKit

set_option maxRecDepth 20000 in
set_option maxHeartbeats 4000000 in
theorem implUseFirst_any (A B : Option Addr) (n m c d : Nat) (ps : List (Int × Int)) (ws : List Int) (w : World) (h : RP w A n ps) (h' : RI w B m ws) :
    Calls Tryd.prog 57 #[.slice A n c, .slice B m d] w fun e w' => ∃ v h, e = .returned v ∧ OwnL w' w.heap.size w'.heap.size v (useFirstL ps ws).length h (gl (useFirstL ps ws)) ∧ Le w w' := by
  have hv := implLotsValid_any A n c ps w h
  have hw := fun w' (l : Le w w') => implWantsValid_any B m d ws w' (h'.le l)
  cases hb : lotsL ps
  · simp only [hb] at hv
    have e0 : useFirstL ps ws = [] := by simp [useFirstL, hb]
    rw [e0]
    have HV := Lib.hid hv
    clear hv hb e0 h hw h'
    go_enter Tryd.func57, Tryd.ntmps57
    go_wp2_with (go_at_call 28; refine HV.out.mono ?_; rintro e w1 ⟨rfl, l1⟩)
    go_ret
    exact ⟨_, fun _ => .slice none 0 0, rfl, OwnL.nil _ _ _ _ _, l1⟩
  · simp only [hb] at hv
    cases hb2 : wantsL ws
    · simp only [hb2] at hw
      have e0 : useFirstL ps ws = [] := by simp [useFirstL, hb2]
      rw [e0]
      have HV := Lib.hid hv
      have HW := Lib.hid hw
      clear hv hb hb2 e0 h hw h'
      go_enter Tryd.func57, Tryd.ntmps57
      go_wp2_with (first | (go_at_call 28; refine HV.out.mono ?_; rintro e w1 ⟨rfl, l1⟩) | (go_at_call 31; refine (HW.out _ l1).mono ?_; rintro e w1 ⟨rfl, rfl⟩))
      go_ret
      exact ⟨_, fun _ => .slice none 0 0, rfl, OwnL.nil _ _ _ _ _, l1⟩
    · simp only [hb2] at hw
      obtain ⟨hm6, _⟩ := wants_facts h'.len hb2
      have e0 : useFirstL ps ws = (List.range m).map (takeAtF ps ws) := by unfold useFirstL; rw [hb, hb2, Bool.true_and, if_pos rfl, h'.len]
      have e1 : (useFirstL ps ws).length = m := by rw [e0]; simp
      have e2 : ∀ j, j < m → takeAtF ps ws j = gl (useFirstL ps ws) j := fun j hj => by rw [e0, gl_range _ _ hj]
      have HV := Lib.hid hv
      have HW := Lib.hid hw
      have HP := Lib.hid h
      have HC := Lib.hid h'.at_
      have HE1 := Lib.hid e1
      have HE2 := Lib.hid e2
      clear hv hb hb2 e0 h hw h' e1 e2
      have hmk := run_mk (P := Tryd.prog) 31 24 (.slice none 0 0) 1 24 Tryd.underlying31 infoRow m (by omega) (by omega)
      go_enter Tryd.func57, Tryd.ntmps57
      go_wp2_with (first | (go_at_call 28; refine HV.out.mono ?_; rintro e w1 ⟨rfl, l1⟩) | (go_at_call 31; refine (HW.out _ l1).mono ?_; rintro e w' ⟨rfl, rfl⟩))
      clear hmk
      have L1 := Lib.hid l1
      clear l1
      go_loopw [6, 23] (fun lots i wr => ∃ k : Nat, k ≤ m ∧ i = .int .i64 k ∧ Le w wr ∧ (∃ A' n' c', lots = .slice A' n' c' ∧ ∀ w', Chg w1.heap.size (w1.heap.size + 1) wr w' → RP w' A' n' (restF ps ws k)) ∧ ∃ cs h, Blk wr w1.heap.size 24 cs ∧ cs.size = m ∧ (∀ j, j < k → cs[j]? = some (h j)) ∧ (∀ j, k ≤ j → j < m → cs[j]? = some (.slice none 0 0)) ∧ RowsL wr (w1.heap.size + 1) k h (takeAtF ps ws)) (fun _ i _ => m - (intOf i).toNat)
      case atStart =>
        exact ⟨0, Nat.zero_le _, rfl, L1.out.alloc _, ⟨A, n, c, rfl, fun w' hc => HP.out.le (hc.le (L1.out.alloc _) L1.out.size)⟩, _, fun _ => .slice none 0 0, Blk.new _ _ _, by simpa using made_size #[.slice none 0 0] m, fun j hj => absurd hj (by omega), fun j _ hj => made_get _ _ _ hj, fun j hj => absurd hj (by omega), fun i j _ hj => absurd hj (by omega)⟩
      case round =>
        obtain ⟨k, hk, rfl, hle, ⟨A', n', c', rfl, hrp⟩, cs, h, hblk, hsz, hlow, hhigh, hrows⟩ := hrel
        by_cases hlt : k < m
        · obtain ⟨ad, rfl, hc1⟩ := HC.out k hlt
          have c1 := hle.cell hc1
          have hs5 := takeFirstL_small (restF ps ws k) k (gi ws k)
          have htf := slice_ret (implTakeFirst_any A' n' c' (restF ps ws k) k (gi ws k) wr (hrp _ (Chg.refl _ _ _))) (by omega)
          have HTF := Lib.hid htf
          have HRP := Lib.hid hrp
          have HLE := Lib.hid hle
          have HB := Lib.hid hblk
          have HLO := Lib.hid hlow
          have HHI := Lib.hid hhigh
          have HRW := Lib.hid hrows
          clear hc1 htf hrp hle hblk hlow hhigh hrows
          go_wp2_with fail
          refine HTF.out.mono ?_; rintro e w2 ⟨A2, c2, rfl, r2, o2, l2⟩
          have b2 := HB.out.le l2
          have d1 := (b2.cell k).trans (HHI.out k (Nat.le_refl _) hlt)
          have z1 := b2.frozen k
          have hbl := HB.out.lt
          have hls := l2.size
          have s2 : (w2.setCell ⟨w1.heap.size, k, none⟩ (.slice A2 (takeFirstL (restF ps ws k) k (gi ws k)).length c2)).ownsRow wr.heap.size 3 1 (.slice A2 (takeFirstL (restF ps ws k) k (gi ws k)).length c2) (takeFirstL (restF ps ws k) k (gi ws k)).length (ints (takeFirstL (restF ps ws k) k (gi ws k))) :=
            own_far o2 (fun hg => by have := (o2.lt _ hg).1; simp at this; omega) _
          have hch : Chg w1.heap.size (w1.heap.size + 1) wr (w2.setCell ⟨w1.heap.size, k, none⟩ (.slice A2 (takeFirstL (restF ps ws k) k (gi ws k)).length c2)) :=
            (Chg.of_le l2).trans (Chg.of_gb (gb_setCell (World.grownBy.refl _ (some w1.heap.size)) rfl _) fun g hg => by injection hg with hg; omega)
          have htd := slice_retPB (implTakeDo_any A' A2 n' _ c' c2 (restF ps ws k) k _ _ (HRP.out _ hch) (own_RI2 s2 (by omega))) (takeDoR_small _ _ _)
          have hd1 : (w2.setCell ⟨w1.heap.size, k, none⟩ (.slice A2 (takeFirstL (restF ps ws k) k (gi ws k)).length c2)).cell? ⟨w1.heap.size, k, none⟩ = some (.slice A2 (takeFirstL (restF ps ws k) k (gi ws k)).length c2) := by
            have := (b2.set_ k (.slice A2 (takeFirstL (restF ps ws k) k (gi ws k)).length c2)).cell k
            rw [this, Array.getElem?_setIfInBounds, if_pos rfl, if_pos (by omega)]
          have HPU := Lib.hid (HRW.out.push (b := wr.heap.size) l2 (by omega) (Nat.le_refl _) o2)
          have HTD := Lib.hid htd
          have B2 := Lib.hid b2
          have S2 := Lib.hid s2
          have HL2 := Lib.hid l2
          clear htd hch b2 s2 l2 o2 r2
          go_wp2_with (go_at_call 40; refine HTD.out.mono ?_; rintro e w3 ⟨A3, c3, rfl, _, o3, l3⟩)
          go_roundw
          case rel =>
            have hl1 := L1.out.size
            have hs3 := l3.size
            refine ⟨k + 1, by omega, by go_num, ((HLE.out.trans HL2.out).setCell hl1 _).trans l3, ⟨_, _, _, rfl, fun w' hc => ?_⟩, _, fun j => if j = k then .slice A2 (takeFirstL (restF ps ws k) k (gi ws k)).length c2 else h j, (B2.out.set_ _ _).le l3, by simp [hsz], fun j hj => ?_, fun j hj hjm => ?_, ?_⟩
            · refine own_RP2 (Chg.own o3 hc fun g hg => ?_) (takeDoR_small _ _ _)
              have := (o3.lt g hg).1
              simp at this
              omega
            · rw [Array.getElem?_setIfInBounds]
              by_cases e : k = j
              · subst e; rw [if_pos rfl, if_pos (by omega)]; simp
              · rw [if_neg e, HLO.out j (by omega)]
                simp only [if_neg (fun q : j = k => e q.symm)]
            · rw [Array.getElem?_setIfInBounds, if_neg (by omega)]
              exact HHI.out j (by omega) hjm
            · have r0 : RowsL (w2.setCell ⟨w1.heap.size, k, none⟩ (.slice A2 (takeFirstL (restF ps ws k) k (gi ws k)).length c2)) (w1.heap.size + 1) (k + 1) (fun j => if j = k then .slice A2 (takeFirstL (restF ps ws k) k (gi ws k)).length c2 else h j) (takeAtF ps ws) :=
                HPU.out.far (by simp) _
              exact r0.le l3
          case measure => simp [intOf]; omega
        · obtain rfl : k = m := by omega
          have ho := hrows.own (lo := w.heap.size) L1.out.size hblk hsz hlow (by omega) (fun j hj => by have := takeFirstL_small (restF ps ws j) j (gi ws j); unfold takeAtF; omega)
          have HO := Lib.hid ho
          clear ho
          go_wp2
          go_ret
          rw [HE1.out]
          exact ⟨_, h, rfl, HO.out.congr HE2.out, hle⟩

/-- a contract whose result is a table of its own, as the laws use it -/
theorem OwnL.rii {w : World} {lo hi : Nat} {A : Option Addr} {n c : Nat} {h : Nat → Value} {L : List (List Int)} (o : OwnL w lo hi (.slice A n c) n h (gl L)) (hl : L.length = n) : RII w A n L := by
  obtain ⟨A', c', he, hr⟩ := o.reads hl (fun _ _ => rfl)
  injection he with e1 e2 e3
  subst e1
  exact hr
theorem OwnL.gb {w w' : World} {lo hi : Nat} {v : Value} {n : Nat} {h : Nat → Value} {ts : Nat → List Int} {row : Option Nat} (o : OwnL w lo hi v n h ts) (hg : w.grownBy w' row) (hb : ∀ g, row = some g → g < lo) : OwnL w' lo hi v n h ts :=
  o.chg (lo' := 0) (hi' := lo) (Chg.of_gb hg fun g e => ⟨Nat.zero_le _, hb g e⟩) (.inr (Nat.le_refl _))
theorem slice_retL {P : Program} {f : FuncId} {args : Array Value} {w : World} {L : List (List Int)}
    (h : Calls P f args w fun e w' => ∃ v h, e = .returned v ∧ OwnL w' w.heap.size w'.heap.size v L.length h (gl L) ∧ Le w w') :
    Calls P f args w fun e w' => ∃ A c h, e = .returned (.slice A L.length c) ∧ RII w' A L.length L ∧ OwnL w' w.heap.size w'.heap.size (.slice A L.length c) L.length h (gl L) ∧ Le w w' :=
  h.mono fun e w' ⟨v, h, he, ho, hl⟩ => by
    obtain ⟨A, c, rfl, hr⟩ := ho.reads rfl (fun _ _ => rfl)
    exact ⟨A, c, h, he, hr, ho, hl⟩
theorem useFirstL_len (ps : List (Int × Int)) (ws : List Int) : (useFirstL ps ws).length ≤ 64 := by
  unfold useFirstL
  split
  · rename_i h
    rw [Bool.and_eq_true] at h
    have := (wants_facts rfl h.2).1
    simp; omega
  · exact Nat.zero_le _
theorem useFirstL_row (ps : List (Int × Int)) (ws : List Int) : ∀ j, j < (useFirstL ps ws).length → (gl (useFirstL ps ws) j).length ≤ 5 := by
  intro j hj
  unfold useFirstL at hj ⊢
  split
  · rename_i h
    rw [if_pos h] at hj
    rw [gl_range _ _ (by simpa using hj)]
    exact takeFirstL_small _ _ _
  · rename_i h
    rw [if_neg h] at hj
    simp at hj

end Go.Proofs.YteeklaplnhafoaaDoor
