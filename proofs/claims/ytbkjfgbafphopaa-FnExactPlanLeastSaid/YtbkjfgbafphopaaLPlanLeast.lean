/- The walk of FnExactPlanLeast: both sides come to one plan; what is marked afterwards shows that it is shared with nothing. -/
import Derived.Test.YtbkjfgbafphopaaWLeastI
import Derived.Test.YtbkjfgbafphopaaWPlanM
namespace Go.Proofs.Ytbkjfgbafphopaa
open Go.RowKit

theorem plan_ret {P : Program} {f : FuncId} {args : Array Value} {w : World} {t : TypeId} {L M : List Int} {b : Bool}
    (h : Calls P f args w fun e w' => ∃ v1 v2, e = .returned (.tuple #[.agg #[v1, v2], .bool b]) ∧ w'.ownsRow w.heap.size t 1 v1 L.length (ints L) ∧ w'.ownsRow w.heap.size t 1 v2 M.length (ints M) ∧ (∀ g, v1.ownBlock = some g → v2.ownBlock ≠ some g) ∧ Le w w') (hm : L.length ≤ 9223372036854775807) (hn : M.length ≤ 9223372036854775807) :
    Calls P f args w fun e w' => ∃ A c B d, e = .returned (.tuple #[.agg #[.slice A L.length c, .slice B M.length d], .bool b]) ∧ RI w' A L.length L ∧ RI w' B M.length M ∧ w'.ownsRow w.heap.size t 1 (.slice A L.length c) L.length (ints L) ∧ w'.ownsRow w.heap.size t 1 (.slice B M.length d) M.length (ints M) ∧ (∀ g, (Value.slice A L.length c).ownBlock = some g → (Value.slice B M.length d).ownBlock ≠ some g) ∧ Le w w' :=
  h.mono fun e w' ⟨v1, v2, he, o1, o2, ha, hl⟩ => by
    obtain ⟨A, c, rfl, hr⟩ := own_RI o1 hm
    obtain ⟨B, d, rfl, hs⟩ := own_RI o2 hn
    exact ⟨A, c, B, d, he, hr, hs, o1, o2, ha, hl⟩
theorem Chg.blk2 {lo hi : Nat} {w w' W : World} {g : Nat} {t : TypeId} {cs : Array Value} (h : Blk w g t cs) (hc : Chg lo hi w w') (h0 : Blk W g t cs) (hs : W.heap.size ≤ lo) : Blk w' g t cs := (hc.block g h.lt (.inl (Nat.lt_of_lt_of_le h0.lt hs))).trans h

set_option maxHeartbeats 4000000 in
theorem law_PlanLeast (w : World) (A0 : Option Addr) (n0 c0 : Nat) (xs0 : List (It)) (h0 : RM w A0 n0 xs0) (A1 : Option Addr) (n1 c1 : Nat) (xs1 : List Int) (h1 : RI w A1 n1 xs1) (_w1 : W64 xs1) (A2 : Option Addr) (n2 c2 : Nat) (xs2 : List Int) (h2 : RI w A2 n2 xs2) (_w2 : W64 xs2) :
    Calls Try.prog 12 #[.slice A0 n0 c0, .slice A1 n1 c1, .slice A2 n2 c2] w fun e w' => e = .returned (.bool true) ∧ Le w w' := by
  have hm0 := h0.max
  have hm1 := h1.max
  have hm2 := h2.max
  rcases Nat.lt_or_ge 1048576 n1 with hb1 | hn1
  · go_enter Try.func12, Try.ntmps12
    go_wp2
    go_ret
    exact ⟨rfl, Le.refl _⟩
  rcases Nat.lt_or_ge 1048576 n2 with hb2 | hn2
  · go_enter Try.func12, Try.ntmps12
    go_wp2
    go_ret
    exact ⟨rfl, Le.refl _⟩
  have t00 := totM_nonneg xs0 n0
  rcases Int.lt_or_le (1048576) ((n0 : Int) + totM xs0 n0) with hb0 | hn0'
  · go_enter Try.func12, Try.ntmps12
    go_wp2_with fail
    refine (szItemS_no _ _ _ _ _ _ h0 (by omega) (by omega) hb0).mono ?_; rintro e v1 ⟨rfl, q1⟩
    go_wp2
    go_ret
    exact ⟨rfl, q1⟩
  have hz0 : (n0 : Int) + totM xs0 n0 ≤ 1048576 := by omega
  have hL1 : (runsR xs0 xs1 xs2).length ≤ 1048576 := by
    unfold runsR; split
    · simp [runsL]; have := h0.len; omega
    · exact Nat.zero_le _
  have hL2 : (leftR xs0 xs1 xs2).length ≤ 1048576 := by
    unfold leftR; split
    · rw [leftL_length]; have := h0.len; omega
    · exact Nat.zero_le _
  have hbb : ((planArgsL xs0 xs1 xs2) != (planArgsL xs0 xs1 xs2)) = false := by simp
  go_enter Try.func12, Try.ntmps12
  go_wp2_with fail
  refine (szItemS_ok _ _ _ _ _ _ h0 (by omega) hn0').mono ?_; rintro e w1 ⟨rfl, l1⟩
  go_wp2_with fail
  refine (toItemS_any _ _ _ _ _ (h0.le l1) hz0).mono ?_; rintro e w2 ⟨rfl, r0a, ⟨fr0a, br0a⟩, l2⟩
  go_wp2_with fail
  refine (toIntS_r _ _ _ _ _ (h1.le (l1.trans l2)) hn1).mono ?_; rintro e w3 ⟨rfl, r1a, br1a, l3⟩
  go_wp2_with fail
  refine (toIntS_r _ _ _ _ _ (h2.le ((l1.trans l2).trans l3)) hn2).mono ?_; rintro e w4 ⟨rfl, r2a, br2a, l4⟩
  go_wp2_with fail
  refine (plan_ret (specLeast_any _ _ _ _ _ _ _ _ _ _ _ _ _ (r0a.le (l3.trans l4)) (r1a.le l4) r2a) (by omega) (by omega)).mono ?_; rintro e w5 ⟨Agw, cgw, Bgw, dgw, rfl, rgw, sgw, ogw, pgw, agw, l5⟩
  have l6 := (Le.refl w5).alloc (.cells #[.slice Agw (runsR xs0 xs1 xs2).length cgw, .slice Bgw (leftR xs0 xs1 xs2).length dgw] 40)
  have kgw := Blk.new w5 40 #[.slice Agw (runsR xs0 xs1 xs2).length cgw, .slice Bgw (leftR xs0 xs1 xs2).length dgw]
  obtain ⟨w6, hw6⟩ : ∃ w6, w5.alloc (.cells #[.slice Agw (runsR xs0 xs1 xs2).length cgw, .slice Bgw (leftR xs0 xs1 xs2).length dgw] 40) = w6 := ⟨_, rfl⟩
  rw [hw6] at l6 kgw
  have Kgw := Lib.hid kgw
  clear kgw
  go_wp2_with fail
  refine (toItemS_any _ _ _ _ _ (h0.le (((((l1.trans l2).trans l3).trans l4).trans l5).trans l6)) hz0).mono ?_; rintro e w7 ⟨rfl, r0b, ⟨fr0b, br0b⟩, l7⟩
  go_wp2_with fail
  refine (toIntS_r _ _ _ _ _ (h1.le ((((((l1.trans l2).trans l3).trans l4).trans l5).trans l6).trans l7)) hn1).mono ?_; rintro e w8 ⟨rfl, r1b, br1b, l8⟩
  go_wp2_with fail
  refine (toIntS_r _ _ _ _ _ (h2.le (((((((l1.trans l2).trans l3).trans l4).trans l5).trans l6).trans l7).trans l8)) hn2).mono ?_; rintro e w9 ⟨rfl, r2b, br2b, l9⟩
  go_wp2_with fail
  refine (plan_ret (implLeast_any _ _ _ _ _ _ _ _ _ _ _ _ _ (r0b.le (l8.trans l9)) (r1b.le l9) r2b) (by omega) (by omega)).mono ?_; rintro e w10 ⟨Agg, cgg, Bgg, dgg, rfl, rgg, sgg, ogg, pgg, agg, l10⟩
  have l11 := (Le.refl w10).alloc (.cells #[.slice Agg (runsR xs0 xs1 xs2).length cgg, .slice Bgg (leftR xs0 xs1 xs2).length dgg] 40)
  have kgg := Blk.new w10 40 #[.slice Agg (runsR xs0 xs1 xs2).length cgg, .slice Bgg (leftR xs0 xs1 xs2).length dgg]
  obtain ⟨w11, hw11⟩ : ∃ w11, w10.alloc (.cells #[.slice Agg (runsR xs0 xs1 xs2).length cgg, .slice Bgg (leftR xs0 xs1 xs2).length dgg] 40) = w11 := ⟨_, rfl⟩
  rw [hw11] at l11 kgg
  have Kgg := Lib.hid kgg
  clear kgg
  have az0 := Kgg.out.cell 0
  have bz0 := Kgg.out.cell 1
  simp at az0 bz0
  have az1 := (Blk.le (Blk.le (Blk.le (Blk.le (Blk.le Kgw.out l7) l8) l9) l10) l11).cell 0
  have bz1 := (Blk.le (Blk.le (Blk.le (Blk.le (Blk.le Kgw.out l7) l8) l9) l10) l11).cell 1
  simp at az1 bz1
  go_wp2_with fail
  refine (eqPlan_self _ _ _ _ _ _ _ _ _ _ _ _ _ _ _ (rgg.le l11) (sgg.le l11) (rgw.le (((((l6.trans l7).trans l8).trans l9).trans l10).trans l11)) (sgw.le (((((l6.trans l7).trans l8).trans l9).trans l10).trans l11))).mono ?_; rintro e w12 ⟨rfl, l12⟩
  clear az0 bz0 az1 bz1
  go_wp2_with fail
  refine (toItemS_any _ _ _ _ _ (h0.le (((((((((((l1.trans l2).trans l3).trans l4).trans l5).trans l6).trans l7).trans l8).trans l9).trans l10).trans l11).trans l12)) hz0).mono ?_; rintro e w13 ⟨rfl, r0c, ⟨fr0c, br0c⟩, l13⟩
  go_wp2_with fail
  refine (eqItemS_self _ _ _ _ _ _ _ _ (r0b.le (((((l8.trans l9).trans l10).trans l11).trans l12).trans l13)) r0c).mono ?_; rintro e w14 ⟨rfl, l14⟩
  go_wp2_with fail
  refine (toIntS_r _ _ _ _ _ (h1.le (((((((((((((l1.trans l2).trans l3).trans l4).trans l5).trans l6).trans l7).trans l8).trans l9).trans l10).trans l11).trans l12).trans l13).trans l14)) hn1).mono ?_; rintro e w15 ⟨rfl, r1c, br1c, l15⟩
  go_wp2_with fail
  refine (eqIntS_self _ _ _ _ _ _ _ _ (r1b.le ((((((l9.trans l10).trans l11).trans l12).trans l13).trans l14).trans l15)) r1c).mono ?_; rintro e w16 ⟨rfl, l16⟩
  go_wp2_with fail
  refine (toIntS_r _ _ _ _ _ (h2.le (((((((((((((((l1.trans l2).trans l3).trans l4).trans l5).trans l6).trans l7).trans l8).trans l9).trans l10).trans l11).trans l12).trans l13).trans l14).trans l15).trans l16)) hn2).mono ?_; rintro e w17 ⟨rfl, r2c, br2c, l17⟩
  go_wp2_with fail
  refine (eqIntS_self _ _ _ _ _ _ _ _ (r2b.le (((((((l10.trans l11).trans l12).trans l13).trans l14).trans l15).trans l16).trans l17)) r2c).mono ?_; rintro e w18 ⟨rfl, l18⟩
  go_wp2_with fail
  refine (markItemS_own _ _ _ _ _ _ _ _ (OwnM.le br0b ((((((((((l8.trans l9).trans l10).trans l11).trans l12).trans l13).trans l14).trans l15).trans l16).trans l17).trans l18)) hz0 (by omega) (by omega)).mono ?_; rintro e w19 ⟨rfl, gr19⟩
  go_wp2_with fail
  refine (markIntS_own _ _ _ _ _ _ _ (Chg.own (own_Le (own_Le (own_Le (own_Le (own_Le (own_Le (own_Le (own_Le (own_Le (own_Le (Blk.ownI br1b (Nat.le_refl _) h1.len h1.max) l9) l10) l11) l12) l13) l14) l15) l16) l17) l18) gr19 (fun g hg => .inr (Nat.le_trans (Le.refl _).size (((Blk.ownI br1b (Nat.le_refl _) h1.len h1.max)).lt g hg).1))) hn1 (by omega) (by omega)).mono ?_; rintro e w20 ⟨rfl, _, gr20⟩
  go_wp2_with fail
  refine (markIntS_own _ _ _ _ _ _ _ (own_gb (Chg.own (own_Le (own_Le (own_Le (own_Le (own_Le (own_Le (own_Le (own_Le (own_Le (Blk.ownI br2b (Nat.le_refl _) h2.len h2.max) l10) l11) l12) l13) l14) l15) l16) l17) l18) gr19 (fun g hg => .inr (Nat.le_trans l8.size (((Blk.ownI br2b (Nat.le_refl _) h2.len h2.max)).lt g hg).1))) gr20 (fun g hg => Nat.lt_of_lt_of_le (((Blk.ownI br1b (Nat.le_refl _) h1.len h1.max)).lt g hg).2 (Le.refl _).size)) hn2 (by omega) (by omega)).mono ?_; rintro e w21 ⟨rfl, _, gr21⟩
  have gg2 := own_RI2 (own_gb (own_gb (Chg.own (own_Le (own_Le (own_Le (own_Le (own_Le (own_Le (own_Le (own_Le ogg l11) l12) l13) l14) l15) l16) l17) l18) gr19 (fun g hg => .inr (Nat.le_trans (l8.trans l9).size ((ogg).lt g hg).1))) gr20 (fun g hg => Nat.lt_of_lt_of_le (((Blk.ownI br1b (Nat.le_refl _) h1.len h1.max)).lt g hg).2 l9.size)) gr21 (fun g hg => Nat.lt_of_lt_of_le (((Blk.ownI br2b (Nat.le_refl _) h2.len h2.max)).lt g hg).2 (Le.refl _).size)) (by omega)
  have gg3 := own_RI2 (own_gb (own_gb (Chg.own (own_Le (own_Le (own_Le (own_Le (own_Le (own_Le (own_Le (own_Le pgg l11) l12) l13) l14) l15) l16) l17) l18) gr19 (fun g hg => .inr (Nat.le_trans (l8.trans l9).size ((pgg).lt g hg).1))) gr20 (fun g hg => Nat.lt_of_lt_of_le (((Blk.ownI br1b (Nat.le_refl _) h1.len h1.max)).lt g hg).2 l9.size)) gr21 (fun g hg => Nat.lt_of_lt_of_le (((Blk.ownI br2b (Nat.le_refl _) h2.len h2.max)).lt g hg).2 (Le.refl _).size)) (by omega)
  have az0 := (Blk.grown (Blk.grown (Chg.blk (Blk.le (Blk.le (Blk.le (Blk.le (Blk.le (Blk.le (Blk.le Kgg.out l12) l13) l14) l15) l16) l17) l18) gr19 ((l8.trans l9).trans l10).size) gr20 (fun e => absurd (((Blk.ownI br1b (Nat.le_refl _) h1.len h1.max)).lt _ e.symm).2 (Nat.not_lt.2 (l9.trans l10).size))) gr21 (fun e => absurd (((Blk.ownI br2b (Nat.le_refl _) h2.len h2.max)).lt _ e.symm).2 (Nat.not_lt.2 l10.size))).cell 0
  have bz0 := (Blk.grown (Blk.grown (Chg.blk (Blk.le (Blk.le (Blk.le (Blk.le (Blk.le (Blk.le (Blk.le Kgg.out l12) l13) l14) l15) l16) l17) l18) gr19 ((l8.trans l9).trans l10).size) gr20 (fun e => absurd (((Blk.ownI br1b (Nat.le_refl _) h1.len h1.max)).lt _ e.symm).2 (Nat.not_lt.2 (l9.trans l10).size))) gr21 (fun e => absurd (((Blk.ownI br2b (Nat.le_refl _) h2.len h2.max)).lt _ e.symm).2 (Nat.not_lt.2 l10.size))).cell 1
  simp at az0 bz0
  have az1 := (Blk.grown (Blk.grown (Chg.blk2 (Blk.le (Blk.le (Blk.le (Blk.le (Blk.le (Blk.le (Blk.le (Blk.le (Blk.le (Blk.le (Blk.le (Blk.le Kgw.out l7) l8) l9) l10) l11) l12) l13) l14) l15) l16) l17) l18) gr19 Kgw.out (Le.refl _).size) gr20 (fun e => absurd (Nat.lt_of_lt_of_le (Blk.lt Kgw.out) (Nat.le_trans l7.size (((Blk.ownI br1b (Nat.le_refl _) h1.len h1.max)).lt _ e.symm).1)) (Nat.lt_irrefl _))) gr21 (fun e => absurd (Nat.lt_of_lt_of_le (Blk.lt Kgw.out) (Nat.le_trans (l7.trans l8).size (((Blk.ownI br2b (Nat.le_refl _) h2.len h2.max)).lt _ e.symm).1)) (Nat.lt_irrefl _))).cell 0
  have bz1 := (Blk.grown (Blk.grown (Chg.blk2 (Blk.le (Blk.le (Blk.le (Blk.le (Blk.le (Blk.le (Blk.le (Blk.le (Blk.le (Blk.le (Blk.le (Blk.le Kgw.out l7) l8) l9) l10) l11) l12) l13) l14) l15) l16) l17) l18) gr19 Kgw.out (Le.refl _).size) gr20 (fun e => absurd (Nat.lt_of_lt_of_le (Blk.lt Kgw.out) (Nat.le_trans l7.size (((Blk.ownI br1b (Nat.le_refl _) h1.len h1.max)).lt _ e.symm).1)) (Nat.lt_irrefl _))) gr21 (fun e => absurd (Nat.lt_of_lt_of_le (Blk.lt Kgw.out) (Nat.le_trans (l7.trans l8).size (((Blk.ownI br2b (Nat.le_refl _) h2.len h2.max)).lt _ e.symm).1)) (Nat.lt_irrefl _))).cell 1
  simp at az1 bz1
  go_wp2_with fail
  refine (eqPlan_self _ _ _ _ _ _ _ _ _ _ _ _ _ _ _ gg2 gg3 (rgw.le (Le.marked (Le.marked (Chg.le gr19 ((((((((((((l6.trans l7).trans l8).trans l9).trans l10).trans l11).trans l12).trans l13).trans l14).trans l15).trans l16).trans l17).trans l18) l6.size) (Chg.own (own_Le (own_Le (own_Le (own_Le (own_Le (own_Le (own_Le (own_Le (own_Le (own_Le (Blk.ownI br1b (Nat.le_refl _) h1.len h1.max) l9) l10) l11) l12) l13) l14) l15) l16) l17) l18) gr19 (fun g hg => .inr (Nat.le_trans (Le.refl _).size (((Blk.ownI br1b (Nat.le_refl _) h1.len h1.max)).lt g hg).1))) (l6.trans l7).size gr20) (own_gb (Chg.own (own_Le (own_Le (own_Le (own_Le (own_Le (own_Le (own_Le (own_Le (own_Le (Blk.ownI br2b (Nat.le_refl _) h2.len h2.max) l10) l11) l12) l13) l14) l15) l16) l17) l18) gr19 (fun g hg => .inr (Nat.le_trans l8.size (((Blk.ownI br2b (Nat.le_refl _) h2.len h2.max)).lt g hg).1))) gr20 (fun g hg => Nat.lt_of_lt_of_le (((Blk.ownI br1b (Nat.le_refl _) h1.len h1.max)).lt g hg).2 (Le.refl _).size)) ((l6.trans l7).trans l8).size gr21)) (sgw.le (Le.marked (Le.marked (Chg.le gr19 ((((((((((((l6.trans l7).trans l8).trans l9).trans l10).trans l11).trans l12).trans l13).trans l14).trans l15).trans l16).trans l17).trans l18) l6.size) (Chg.own (own_Le (own_Le (own_Le (own_Le (own_Le (own_Le (own_Le (own_Le (own_Le (own_Le (Blk.ownI br1b (Nat.le_refl _) h1.len h1.max) l9) l10) l11) l12) l13) l14) l15) l16) l17) l18) gr19 (fun g hg => .inr (Nat.le_trans (Le.refl _).size (((Blk.ownI br1b (Nat.le_refl _) h1.len h1.max)).lt g hg).1))) (l6.trans l7).size gr20) (own_gb (Chg.own (own_Le (own_Le (own_Le (own_Le (own_Le (own_Le (own_Le (own_Le (own_Le (Blk.ownI br2b (Nat.le_refl _) h2.len h2.max) l10) l11) l12) l13) l14) l15) l16) l17) l18) gr19 (fun g hg => .inr (Nat.le_trans l8.size (((Blk.ownI br2b (Nat.le_refl _) h2.len h2.max)).lt g hg).1))) gr20 (fun g hg => Nat.lt_of_lt_of_le (((Blk.ownI br1b (Nat.le_refl _) h1.len h1.max)).lt g hg).2 (Le.refl _).size)) ((l6.trans l7).trans l8).size gr21))).mono ?_; rintro e w22 ⟨rfl, l22⟩
  clear az0 bz0 az1 bz1
  have az0 := (Blk.le (Blk.grown (Blk.grown (Chg.blk (Blk.le (Blk.le (Blk.le (Blk.le (Blk.le (Blk.le (Blk.le Kgg.out l12) l13) l14) l15) l16) l17) l18) gr19 ((l8.trans l9).trans l10).size) gr20 (fun e => absurd (((Blk.ownI br1b (Nat.le_refl _) h1.len h1.max)).lt _ e.symm).2 (Nat.not_lt.2 (l9.trans l10).size))) gr21 (fun e => absurd (((Blk.ownI br2b (Nat.le_refl _) h2.len h2.max)).lt _ e.symm).2 (Nat.not_lt.2 l10.size))) l22).cell 0
  have bz0 := (Blk.le (Blk.grown (Blk.grown (Chg.blk (Blk.le (Blk.le (Blk.le (Blk.le (Blk.le (Blk.le (Blk.le Kgg.out l12) l13) l14) l15) l16) l17) l18) gr19 ((l8.trans l9).trans l10).size) gr20 (fun e => absurd (((Blk.ownI br1b (Nat.le_refl _) h1.len h1.max)).lt _ e.symm).2 (Nat.not_lt.2 (l9.trans l10).size))) gr21 (fun e => absurd (((Blk.ownI br2b (Nat.le_refl _) h2.len h2.max)).lt _ e.symm).2 (Nat.not_lt.2 l10.size))) l22).cell 1
  simp at az0 bz0
  go_wp2_with fail
  refine (markPlan_own _ _ _ _ _ _ _ w10.heap.size _ _ 1 _ (own_Le (own_gb (own_gb (Chg.own (own_Le (own_Le (own_Le (own_Le (own_Le (own_Le (own_Le (own_Le ogg l11) l12) l13) l14) l15) l16) l17) l18) gr19 (fun g hg => .inr (Nat.le_trans (l8.trans l9).size ((ogg).lt g hg).1))) gr20 (fun g hg => Nat.lt_of_lt_of_le (((Blk.ownI br1b (Nat.le_refl _) h1.len h1.max)).lt g hg).2 l9.size)) gr21 (fun g hg => Nat.lt_of_lt_of_le (((Blk.ownI br2b (Nat.le_refl _) h2.len h2.max)).lt g hg).2 (Le.refl _).size)) l22) (own_Le (own_gb (own_gb (Chg.own (own_Le (own_Le (own_Le (own_Le (own_Le (own_Le (own_Le (own_Le pgg l11) l12) l13) l14) l15) l16) l17) l18) gr19 (fun g hg => .inr (Nat.le_trans (l8.trans l9).size ((pgg).lt g hg).1))) gr20 (fun g hg => Nat.lt_of_lt_of_le (((Blk.ownI br1b (Nat.le_refl _) h1.len h1.max)).lt g hg).2 l9.size)) gr21 (fun g hg => Nat.lt_of_lt_of_le (((Blk.ownI br2b (Nat.le_refl _) h2.len h2.max)).lt g hg).2 (Le.refl _).size)) l22) agg (fun g hg => (ogg.lt g hg).2) (fun g hg => (pgg.lt g hg).2) hL1 hL2 (by omega) (by omega)).mono ?_; rintro e w23 ⟨rfl, om, pm, gr23⟩
  clear az0 bz0
  have az0 := (Chg.blk (Blk.le (Blk.grown (Blk.grown (Chg.blk (Blk.le (Blk.le (Blk.le (Blk.le (Blk.le (Blk.le (Blk.le Kgg.out l12) l13) l14) l15) l16) l17) l18) gr19 ((l8.trans l9).trans l10).size) gr20 (fun e => absurd (((Blk.ownI br1b (Nat.le_refl _) h1.len h1.max)).lt _ e.symm).2 (Nat.not_lt.2 (l9.trans l10).size))) gr21 (fun e => absurd (((Blk.ownI br2b (Nat.le_refl _) h2.len h2.max)).lt _ e.symm).2 (Nat.not_lt.2 l10.size))) l22) gr23 (Le.refl _).size).cell 0
  have bz0 := (Chg.blk (Blk.le (Blk.grown (Blk.grown (Chg.blk (Blk.le (Blk.le (Blk.le (Blk.le (Blk.le (Blk.le (Blk.le Kgg.out l12) l13) l14) l15) l16) l17) l18) gr19 ((l8.trans l9).trans l10).size) gr20 (fun e => absurd (((Blk.ownI br1b (Nat.le_refl _) h1.len h1.max)).lt _ e.symm).2 (Nat.not_lt.2 (l9.trans l10).size))) gr21 (fun e => absurd (((Blk.ownI br2b (Nat.le_refl _) h2.len h2.max)).lt _ e.symm).2 (Nat.not_lt.2 l10.size))) l22) gr23 (Le.refl _).size).cell 1
  simp at az0 bz0
  go_wp2_with fail
  refine (heldPlan_any _ _ _ _ _ _ 1 _ (own_RI2 om (by omega)) (own_RI2 pm (by omega)) hL1 hL2 (by omega) (by omega)).mono ?_; rintro e w24 ⟨rfl, l24⟩
  clear az0 bz0
  go_wp2_with fail
  refine (toItemS_any _ _ _ _ _ (h0.le ((Chg.le gr23 ((Le.marked (Le.marked (Chg.le gr19 (((((((((((((((((l1.trans l2).trans l3).trans l4).trans l5).trans l6).trans l7).trans l8).trans l9).trans l10).trans l11).trans l12).trans l13).trans l14).trans l15).trans l16).trans l17).trans l18) (((((l1.trans l2).trans l3).trans l4).trans l5).trans l6).size) (Chg.own (own_Le (own_Le (own_Le (own_Le (own_Le (own_Le (own_Le (own_Le (own_Le (own_Le (Blk.ownI br1b (Nat.le_refl _) h1.len h1.max) l9) l10) l11) l12) l13) l14) l15) l16) l17) l18) gr19 (fun g hg => .inr (Nat.le_trans (Le.refl _).size (((Blk.ownI br1b (Nat.le_refl _) h1.len h1.max)).lt g hg).1))) ((((((l1.trans l2).trans l3).trans l4).trans l5).trans l6).trans l7).size gr20) (own_gb (Chg.own (own_Le (own_Le (own_Le (own_Le (own_Le (own_Le (own_Le (own_Le (own_Le (Blk.ownI br2b (Nat.le_refl _) h2.len h2.max) l10) l11) l12) l13) l14) l15) l16) l17) l18) gr19 (fun g hg => .inr (Nat.le_trans l8.size (((Blk.ownI br2b (Nat.le_refl _) h2.len h2.max)).lt g hg).1))) gr20 (fun g hg => Nat.lt_of_lt_of_le (((Blk.ownI br1b (Nat.le_refl _) h1.len h1.max)).lt g hg).2 (Le.refl _).size)) (((((((l1.trans l2).trans l3).trans l4).trans l5).trans l6).trans l7).trans l8).size gr21).trans l22) ((((((((l1.trans l2).trans l3).trans l4).trans l5).trans l6).trans l7).trans l8).trans l9).size).trans l24)) hz0).mono ?_; rintro e w25 ⟨rfl, r0d, ⟨fr0d, br0d⟩, l25⟩
  go_wp2_with fail
  refine (toIntS_r _ _ _ _ _ (h1.le (((Chg.le gr23 ((Le.marked (Le.marked (Chg.le gr19 (((((((((((((((((l1.trans l2).trans l3).trans l4).trans l5).trans l6).trans l7).trans l8).trans l9).trans l10).trans l11).trans l12).trans l13).trans l14).trans l15).trans l16).trans l17).trans l18) (((((l1.trans l2).trans l3).trans l4).trans l5).trans l6).size) (Chg.own (own_Le (own_Le (own_Le (own_Le (own_Le (own_Le (own_Le (own_Le (own_Le (own_Le (Blk.ownI br1b (Nat.le_refl _) h1.len h1.max) l9) l10) l11) l12) l13) l14) l15) l16) l17) l18) gr19 (fun g hg => .inr (Nat.le_trans (Le.refl _).size (((Blk.ownI br1b (Nat.le_refl _) h1.len h1.max)).lt g hg).1))) ((((((l1.trans l2).trans l3).trans l4).trans l5).trans l6).trans l7).size gr20) (own_gb (Chg.own (own_Le (own_Le (own_Le (own_Le (own_Le (own_Le (own_Le (own_Le (own_Le (Blk.ownI br2b (Nat.le_refl _) h2.len h2.max) l10) l11) l12) l13) l14) l15) l16) l17) l18) gr19 (fun g hg => .inr (Nat.le_trans l8.size (((Blk.ownI br2b (Nat.le_refl _) h2.len h2.max)).lt g hg).1))) gr20 (fun g hg => Nat.lt_of_lt_of_le (((Blk.ownI br1b (Nat.le_refl _) h1.len h1.max)).lt g hg).2 (Le.refl _).size)) (((((((l1.trans l2).trans l3).trans l4).trans l5).trans l6).trans l7).trans l8).size gr21).trans l22) ((((((((l1.trans l2).trans l3).trans l4).trans l5).trans l6).trans l7).trans l8).trans l9).size).trans l24).trans l25)) hn1).mono ?_; rintro e w26 ⟨rfl, r1d, br1d, l26⟩
  go_wp2_with fail
  refine (toIntS_r _ _ _ _ _ (h2.le ((((Chg.le gr23 ((Le.marked (Le.marked (Chg.le gr19 (((((((((((((((((l1.trans l2).trans l3).trans l4).trans l5).trans l6).trans l7).trans l8).trans l9).trans l10).trans l11).trans l12).trans l13).trans l14).trans l15).trans l16).trans l17).trans l18) (((((l1.trans l2).trans l3).trans l4).trans l5).trans l6).size) (Chg.own (own_Le (own_Le (own_Le (own_Le (own_Le (own_Le (own_Le (own_Le (own_Le (own_Le (Blk.ownI br1b (Nat.le_refl _) h1.len h1.max) l9) l10) l11) l12) l13) l14) l15) l16) l17) l18) gr19 (fun g hg => .inr (Nat.le_trans (Le.refl _).size (((Blk.ownI br1b (Nat.le_refl _) h1.len h1.max)).lt g hg).1))) ((((((l1.trans l2).trans l3).trans l4).trans l5).trans l6).trans l7).size gr20) (own_gb (Chg.own (own_Le (own_Le (own_Le (own_Le (own_Le (own_Le (own_Le (own_Le (own_Le (Blk.ownI br2b (Nat.le_refl _) h2.len h2.max) l10) l11) l12) l13) l14) l15) l16) l17) l18) gr19 (fun g hg => .inr (Nat.le_trans l8.size (((Blk.ownI br2b (Nat.le_refl _) h2.len h2.max)).lt g hg).1))) gr20 (fun g hg => Nat.lt_of_lt_of_le (((Blk.ownI br1b (Nat.le_refl _) h1.len h1.max)).lt g hg).2 (Le.refl _).size)) (((((((l1.trans l2).trans l3).trans l4).trans l5).trans l6).trans l7).trans l8).size gr21).trans l22) ((((((((l1.trans l2).trans l3).trans l4).trans l5).trans l6).trans l7).trans l8).trans l9).size).trans l24).trans l25).trans l26)) hn2).mono ?_; rintro e w27 ⟨rfl, r2d, br2d, l27⟩
  go_wp2_with fail
  refine (plan_ret (implLeast_any _ _ _ _ _ _ _ _ _ _ _ _ _ (r0d.le (l26.trans l27)) (r1d.le l27) r2d) (by omega) (by omega)).mono ?_; rintro e w28 ⟨Agh, cgh, Bgh, dgh, rfl, rgh, sgh, ogh, pgh, agh, l28⟩
  have l29 := (Le.refl w28).alloc (.cells #[.slice Agh (runsR xs0 xs1 xs2).length cgh, .slice Bgh (leftR xs0 xs1 xs2).length dgh] 40)
  have kgh := Blk.new w28 40 #[.slice Agh (runsR xs0 xs1 xs2).length cgh, .slice Bgh (leftR xs0 xs1 xs2).length dgh]
  obtain ⟨w29, hw29⟩ : ∃ w29, w28.alloc (.cells #[.slice Agh (runsR xs0 xs1 xs2).length cgh, .slice Bgh (leftR xs0 xs1 xs2).length dgh] 40) = w29 := ⟨_, rfl⟩
  rw [hw29] at l29 kgh
  have Kgh := Lib.hid kgh
  clear kgh
  have az0 := Kgh.out.cell 0
  have bz0 := Kgh.out.cell 1
  simp at az0 bz0
  have az1 := (Blk.le (Blk.le (Blk.le (Blk.le (Blk.le (Blk.le (Chg.blk2 (Blk.le (Blk.grown (Blk.grown (Chg.blk2 (Blk.le (Blk.le (Blk.le (Blk.le (Blk.le (Blk.le (Blk.le (Blk.le (Blk.le (Blk.le (Blk.le (Blk.le Kgw.out l7) l8) l9) l10) l11) l12) l13) l14) l15) l16) l17) l18) gr19 Kgw.out (Le.refl _).size) gr20 (fun e => absurd (Nat.lt_of_lt_of_le (Blk.lt Kgw.out) (Nat.le_trans l7.size (((Blk.ownI br1b (Nat.le_refl _) h1.len h1.max)).lt _ e.symm).1)) (Nat.lt_irrefl _))) gr21 (fun e => absurd (Nat.lt_of_lt_of_le (Blk.lt Kgw.out) (Nat.le_trans (l7.trans l8).size (((Blk.ownI br2b (Nat.le_refl _) h2.len h2.max)).lt _ e.symm).1)) (Nat.lt_irrefl _))) l22) gr23 Kgw.out ((l7.trans l8).trans l9).size) l24) l25) l26) l27) l28) l29).cell 0
  have bz1 := (Blk.le (Blk.le (Blk.le (Blk.le (Blk.le (Blk.le (Chg.blk2 (Blk.le (Blk.grown (Blk.grown (Chg.blk2 (Blk.le (Blk.le (Blk.le (Blk.le (Blk.le (Blk.le (Blk.le (Blk.le (Blk.le (Blk.le (Blk.le (Blk.le Kgw.out l7) l8) l9) l10) l11) l12) l13) l14) l15) l16) l17) l18) gr19 Kgw.out (Le.refl _).size) gr20 (fun e => absurd (Nat.lt_of_lt_of_le (Blk.lt Kgw.out) (Nat.le_trans l7.size (((Blk.ownI br1b (Nat.le_refl _) h1.len h1.max)).lt _ e.symm).1)) (Nat.lt_irrefl _))) gr21 (fun e => absurd (Nat.lt_of_lt_of_le (Blk.lt Kgw.out) (Nat.le_trans (l7.trans l8).size (((Blk.ownI br2b (Nat.le_refl _) h2.len h2.max)).lt _ e.symm).1)) (Nat.lt_irrefl _))) l22) gr23 Kgw.out ((l7.trans l8).trans l9).size) l24) l25) l26) l27) l28) l29).cell 1
  simp at az1 bz1
  go_wp2_with fail
  refine (eqPlan_self _ _ _ _ _ _ _ _ _ _ _ _ _ _ _ (rgh.le l29) (sgh.le l29) (rgw.le (((((((Chg.le gr23 ((Le.marked (Le.marked (Chg.le gr19 ((((((((((((l6.trans l7).trans l8).trans l9).trans l10).trans l11).trans l12).trans l13).trans l14).trans l15).trans l16).trans l17).trans l18) l6.size) (Chg.own (own_Le (own_Le (own_Le (own_Le (own_Le (own_Le (own_Le (own_Le (own_Le (own_Le (Blk.ownI br1b (Nat.le_refl _) h1.len h1.max) l9) l10) l11) l12) l13) l14) l15) l16) l17) l18) gr19 (fun g hg => .inr (Nat.le_trans (Le.refl _).size (((Blk.ownI br1b (Nat.le_refl _) h1.len h1.max)).lt g hg).1))) (l6.trans l7).size gr20) (own_gb (Chg.own (own_Le (own_Le (own_Le (own_Le (own_Le (own_Le (own_Le (own_Le (own_Le (Blk.ownI br2b (Nat.le_refl _) h2.len h2.max) l10) l11) l12) l13) l14) l15) l16) l17) l18) gr19 (fun g hg => .inr (Nat.le_trans l8.size (((Blk.ownI br2b (Nat.le_refl _) h2.len h2.max)).lt g hg).1))) gr20 (fun g hg => Nat.lt_of_lt_of_le (((Blk.ownI br1b (Nat.le_refl _) h1.len h1.max)).lt g hg).2 (Le.refl _).size)) ((l6.trans l7).trans l8).size gr21).trans l22) (((l6.trans l7).trans l8).trans l9).size).trans l24).trans l25).trans l26).trans l27).trans l28).trans l29)) (sgw.le (((((((Chg.le gr23 ((Le.marked (Le.marked (Chg.le gr19 ((((((((((((l6.trans l7).trans l8).trans l9).trans l10).trans l11).trans l12).trans l13).trans l14).trans l15).trans l16).trans l17).trans l18) l6.size) (Chg.own (own_Le (own_Le (own_Le (own_Le (own_Le (own_Le (own_Le (own_Le (own_Le (own_Le (Blk.ownI br1b (Nat.le_refl _) h1.len h1.max) l9) l10) l11) l12) l13) l14) l15) l16) l17) l18) gr19 (fun g hg => .inr (Nat.le_trans (Le.refl _).size (((Blk.ownI br1b (Nat.le_refl _) h1.len h1.max)).lt g hg).1))) (l6.trans l7).size gr20) (own_gb (Chg.own (own_Le (own_Le (own_Le (own_Le (own_Le (own_Le (own_Le (own_Le (own_Le (Blk.ownI br2b (Nat.le_refl _) h2.len h2.max) l10) l11) l12) l13) l14) l15) l16) l17) l18) gr19 (fun g hg => .inr (Nat.le_trans l8.size (((Blk.ownI br2b (Nat.le_refl _) h2.len h2.max)).lt g hg).1))) gr20 (fun g hg => Nat.lt_of_lt_of_le (((Blk.ownI br1b (Nat.le_refl _) h1.len h1.max)).lt g hg).2 (Le.refl _).size)) ((l6.trans l7).trans l8).size gr21).trans l22) (((l6.trans l7).trans l8).trans l9).size).trans l24).trans l25).trans l26).trans l27).trans l28).trans l29))).mono ?_; rintro e w30 ⟨rfl, l30⟩
  clear az0 bz0 az1 bz1
  have az0 := (Blk.le (Blk.le (Blk.le (Blk.le (Blk.le (Blk.le (Blk.le (Chg.blk (Blk.le (Blk.grown (Blk.grown (Chg.blk (Blk.le (Blk.le (Blk.le (Blk.le (Blk.le (Blk.le (Blk.le Kgg.out l12) l13) l14) l15) l16) l17) l18) gr19 ((l8.trans l9).trans l10).size) gr20 (fun e => absurd (((Blk.ownI br1b (Nat.le_refl _) h1.len h1.max)).lt _ e.symm).2 (Nat.not_lt.2 (l9.trans l10).size))) gr21 (fun e => absurd (((Blk.ownI br2b (Nat.le_refl _) h2.len h2.max)).lt _ e.symm).2 (Nat.not_lt.2 l10.size))) l22) gr23 (Le.refl _).size) l24) l25) l26) l27) l28) l29) l30).cell 0
  have bz0 := (Blk.le (Blk.le (Blk.le (Blk.le (Blk.le (Blk.le (Blk.le (Chg.blk (Blk.le (Blk.grown (Blk.grown (Chg.blk (Blk.le (Blk.le (Blk.le (Blk.le (Blk.le (Blk.le (Blk.le Kgg.out l12) l13) l14) l15) l16) l17) l18) gr19 ((l8.trans l9).trans l10).size) gr20 (fun e => absurd (((Blk.ownI br1b (Nat.le_refl _) h1.len h1.max)).lt _ e.symm).2 (Nat.not_lt.2 (l9.trans l10).size))) gr21 (fun e => absurd (((Blk.ownI br2b (Nat.le_refl _) h2.len h2.max)).lt _ e.symm).2 (Nat.not_lt.2 l10.size))) l22) gr23 (Le.refl _).size) l24) l25) l26) l27) l28) l29) l30).cell 1
  simp at az0 bz0
  go_wp2_with fail
  refine (heldPlan_any _ _ _ _ _ _ 1 _ (own_RI2 (own_Le (own_Le (own_Le (own_Le (own_Le (own_Le (own_Le om l24) l25) l26) l27) l28) l29) l30) (by omega)) (own_RI2 (own_Le (own_Le (own_Le (own_Le (own_Le (own_Le (own_Le pm l24) l25) l26) l27) l28) l29) l30) (by omega)) hL1 hL2 (by omega) (by omega)).mono ?_; rintro e w31 ⟨rfl, l31⟩
  clear az0 bz0
  go_wp2
  go_ret
  exact ⟨rfl, (((((((((Chg.le gr23 ((Le.marked (Le.marked (Chg.le gr19 (((((((((((((((((l1.trans l2).trans l3).trans l4).trans l5).trans l6).trans l7).trans l8).trans l9).trans l10).trans l11).trans l12).trans l13).trans l14).trans l15).trans l16).trans l17).trans l18) (((((l1.trans l2).trans l3).trans l4).trans l5).trans l6).size) (Chg.own (own_Le (own_Le (own_Le (own_Le (own_Le (own_Le (own_Le (own_Le (own_Le (own_Le (Blk.ownI br1b (Nat.le_refl _) h1.len h1.max) l9) l10) l11) l12) l13) l14) l15) l16) l17) l18) gr19 (fun g hg => .inr (Nat.le_trans (Le.refl _).size (((Blk.ownI br1b (Nat.le_refl _) h1.len h1.max)).lt g hg).1))) ((((((l1.trans l2).trans l3).trans l4).trans l5).trans l6).trans l7).size gr20) (own_gb (Chg.own (own_Le (own_Le (own_Le (own_Le (own_Le (own_Le (own_Le (own_Le (own_Le (Blk.ownI br2b (Nat.le_refl _) h2.len h2.max) l10) l11) l12) l13) l14) l15) l16) l17) l18) gr19 (fun g hg => .inr (Nat.le_trans l8.size (((Blk.ownI br2b (Nat.le_refl _) h2.len h2.max)).lt g hg).1))) gr20 (fun g hg => Nat.lt_of_lt_of_le (((Blk.ownI br1b (Nat.le_refl _) h1.len h1.max)).lt g hg).2 (Le.refl _).size)) (((((((l1.trans l2).trans l3).trans l4).trans l5).trans l6).trans l7).trans l8).size gr21).trans l22) ((((((((l1.trans l2).trans l3).trans l4).trans l5).trans l6).trans l7).trans l8).trans l9).size).trans l24).trans l25).trans l26).trans l27).trans l28).trans l29).trans l30).trans l31)⟩

end Go.Proofs.Ytbkjfgbafphopaa
