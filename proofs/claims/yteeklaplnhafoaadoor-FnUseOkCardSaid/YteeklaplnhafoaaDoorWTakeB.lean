/- Walks: TakeDo of the program and of the reference. -/
import Derived.Test.YteeklaplnhafoaaDoorWTakeA
import Derived.Test.YteeklaplnhafoaaDoorWPLot
import Derived.Test.YteeklaplnhafoaaDoorWUpP
import Derived.Maps.AppendAt
namespace Go.Proofs.YteeklaplnhafoaaDoor
open Go.RowKit

def takeDo1 (ps : List (Int × Int)) (take : List Int) (k : Nat) : Int × Int := ((gp ps k).1 - gi take k, (gp ps k).2)
def takeDoL (ps : List (Int × Int)) (take : List Int) : List (Int × Int) := (List.range ps.length).map (takeDo1 ps take)
def takeDoR (ps : List (Int × Int)) (day : Int) (take : List Int) : List (Int × Int) := if takeOkL ps day take = true then takeDoL ps take else []
theorem gp_range (n : Nat) (f : Nat → Int × Int) {j : Nat} (h : j < n) : gp ((List.range n).map f) j = f j := by
  unfold gp; rw [List.getD_eq_getElem?_getD, List.getElem?_map, List.getElem?_range h]; rfl
theorem takeDoL_length (ps : List (Int × Int)) (take : List Int) : (takeDoL ps take).length = ps.length := by simp [takeDoL]
theorem takeDoR_le {ps : List (Int × Int)} {day : Int} {take : List Int} {n m : Nat} (hl : ps.length = n) (h : n ≤ m) : (takeDoR ps day take).length ≤ m := by
  unfold takeDoR
  split
  · rw [takeDoL_length, hl]; exact h
  · exact Nat.zero_le _
theorem gp_takeDoL {ps : List (Int × Int)} {take : List Int} {k : Nat} (h : k < ps.length) : gp (takeDoL ps take) k = takeDo1 ps take k := gp_range _ _ h

set_option maxHeartbeats 2000000 in
set_option maxRecDepth 20000 in
theorem implTakeDo_any (A B : Option Addr) (n m c d : Nat) (ps : List (Int × Int)) (day : Int) (take : List Int) (w : World) (h : RP w A n ps) (h' : RI w B m take) :
    Calls Tryd.prog 40 #[.slice A n c, .int .i64 day, .slice B m d] w fun e w' => ∃ v, e = .returned (.tuple #[v, .bool (takeOkL ps day take)]) ∧ w'.ownsRow w.heap.size 40 2 v (takeDoR ps day take).length (pairs (takeDoR ps day take)) ∧ Le w w' := by
  have hv := implTakeOk_any A B n m c d ps day take w h h'
  have hm := h.max
  cases hb : takeOkL ps day take
  · rw [hb] at hv
    have e0 : takeDoR ps day take = [] := by simp [takeDoR, hb]
    rw [e0]
    have HV := Lib.hid hv
    clear hv hb e0 h
    go_enter Tryd.func40, Tryd.ntmps40
    go_wp2_with fail
    refine HV.out.mono ?_; rintro e w1 ⟨rfl, l1⟩
    go_wp2
    go_ret2
    exact ⟨_, rfl, World.ownsRow_nil _ _ _ _, l1⟩
  · rw [hb] at hv
    obtain ⟨hlv, hml, htk⟩ := takeOk_facts h.len hb
    obtain ⟨hn5, hf⟩ := lots_facts h.len hlv
    rw [h'.len] at hml
    subst hml
    have e0 : takeDoR ps day take = takeDoL ps take := by unfold takeDoR; rw [hb, if_pos rfl]
    rw [e0]
    have HV := Lib.hid hv
    have HL := Lib.hid h.len
    have HF := Lib.hid hf
    have HT := Lib.hid htk
    have HC := Lib.hid h.at_
    have HC2 := Lib.hid h'.at_
    clear hv hb hlv e0 h h' hf htk
    have hmk := run_mk (P := Tryd.prog) 23 40 (.agg #[.int .i64 0, .int .i64 0]) 2 16 Tryd.underlying23 infoLot m (by omega) (by omega)
    go_enter Tryd.func40, Tryd.ntmps40
    go_wp2_with fail
    refine HV.out.mono ?_; rintro e w1 ⟨rfl, l1⟩
    have L1 := Lib.hid l1
    clear l1
    go_wp2
    clear hmk
    go_loopw [21] (fun i wr => ∃ k : Nat, k ≤ m ∧ i = .int .i64 k ∧ Le w wr ∧ ∃ cs, Blk wr w1.heap.size 40 cs ∧ Filled cs (m * 2) (cellP (takeDoL ps take)) (fun _ => .int .i64 0) (k * 2)) (fun i _ => m - (intOf i).toNat)
    case atStart =>
      refine ⟨0, Nat.zero_le _, rfl, L1.out.alloc _, _, Blk.new _ _ _, ?_⟩
      exact Filled.start _ (made_size _ _) (fun j hj => made_get2 _ _ rfl _ j hj)
    case round =>
      obtain ⟨k, hk, rfl, hle, cs, hblk, hfill⟩ := hrel
      by_cases hlt : k < m
      · obtain ⟨ad, rfl, hc1, hc2⟩ := HC.out k hlt
        obtain ⟨ad2, rfl, hc3⟩ := HC2.out k hlt
        have c1 := hle.cell hc1
        have c2 := hle.cell hc2
        obtain ⟨⟨f1, f2⟩, f3, f4⟩ := HF.out k hlt
        obtain ⟨⟨t1, t2⟩, _⟩ := HT.out k hlt
        have l2 := (Le.refl wr).alloc (.cells #[.int .i64 (gp ps k).1, .int .i64 (gp ps k).2] 40)
        have c3 := (hle.trans l2).cell hc3
        have hw : IntKind.i64.wrap ((gp ps k).1 - gi take k) = (gp ps k).1 - gi take k := IntWalk.i64_in _ (by omega)
        have b2 := hblk.le l2
        have d1 := (b2.cell (k * 2)).trans (hfill.now (by omega))
        have d2 := (b2.cell (k * 2 + 1)).trans (hfill.2.2 (k * 2 + 1) (by omega) (by omega))
        have z1 := b2.frozen (k * 2)
        have z2 := b2.frozen (k * 2 + 1)
        have hst : takeDo1 ps take k = ((gp ps k).1 - gi take k, (gp ps k).2) := rfl
        have HST := Lib.hid hst
        have HF2 := Lib.hid hfill
        have HB := Lib.hid b2
        have HLE := Lib.hid (hle.trans l2)
        have HS := Lib.hid L1.out.size
        clear hc1 hc2 hc3 hst hfill hblk b2 hle l2
        have hbx := Blk.new wr 40 #[.int .i64 (gp ps k).1, .int .i64 (gp ps k).2]
        go_wp2
        generalize hwk : wr.alloc (.cells #[.int .i64 (gp ps k).1, .int .i64 (gp ps k).2] 40) = wk at *
        have q1 := hbx.cell 0
        have q2 := hbx.cell 1
        simp at q1 q2
        clear hwk hbx
        go_still_tail 13, (by kernel_rfl)
        change wpList _ _ _ _ _ wk.drew
        go_wp2
        go_roundw
        case rel =>
          have hs := HS.out
          refine ⟨k + 1, by omega, by go_num, (HLE.out.drew.setCell hs _).setCell hs _, _, (HB.out.drew.set_ _ _).set_ _ _, ?_⟩
          rw [show (k + 1) * 2 = k * 2 + 1 + 1 by omega]
          refine (HF2.out.set_ (by omega) ?_).set_ (by omega) ?_
          · rw [cellP_0, gp_takeDoL (by rw [HL.out]; exact hlt), HST.out]
          · rw [cellP_1, gp_takeDoL (by rw [HL.out]; exact hlt), HST.out]
        case measure => simp [intOf]; omega
      · obtain rfl : k = m := by omega
        go_wp2
        go_ret2
        have hl : (takeDoL ps take).length = k := by rw [takeDoL_length, HL.out]
        have e := hfill.toList (by omega) (pairs (takeDoL ps take)) (by rw [pairs_length, hl]) (fun j hj => pairs_getElem? (by rw [hl]; exact hj))
        subst e
        refine ⟨_, rfl, ?_, hle⟩
        rw [hl]
        exact Blk.ownP hblk L1.out.size hl (by omega)

end Go.Proofs.YteeklaplnhafoaaDoor
