/- Walk: TakeDo of the reference. -/
import Derived.Test.YtmemenkioejdoaaDoorWTakeB
import Derived.Test.YtmemenkioejdoaaDoorWApp
import Derived.Deep.RegionHeld3
import Derived.Deep.AppendLies
namespace Go.Proofs.YtmemenkioejdoaaDoor
open Go.RowKit

def firsts (ps : List (Int × Int)) (take : List Int) (k : Nat) : List (Int × Int) := (List.range k).map (takeDo1 ps take)
theorem firsts_succ (ps : List (Int × Int)) (take : List Int) (k : Nat) : firsts ps take (k + 1) = firsts ps take k ++ [takeDo1 ps take k] := by
  unfold firsts; rw [List.range_succ, List.map_append]; rfl

set_option maxRecDepth 20000 in
set_option maxHeartbeats 2000000 in
theorem specTakeDo_any (A B : Option Addr) (n m c d : Nat) (ps : List (Int × Int)) (day : Int) (take : List Int) (w : World) (h : RP w A n ps) (h' : RI w B m take) :
    Calls Tryd.prog 20 #[.slice A n c, .int .i64 day, .slice B m d] w fun e w' => ∃ v, e = .returned (.tuple #[v, .bool (takeOkL ps day take)]) ∧ w'.ownsRow w.heap.size 44 2 v (takeDoR ps day take).length (pairs (takeDoR ps day take)) ∧ Le w w' := by
  have hv := fun w' (l : Le w w') => specTakeOk_any A B n m c d ps day take w' (h.le l) (h'.le l)
  have hm := h.max
  cases hb : takeOkL ps day take
  · rw [hb] at hv
    have e0 : takeDoR ps day take = [] := by simp [takeDoR, hb]
    rw [e0]
    have HV := Lib.hid hv
    clear hv hb e0 h
    go_enter Tryd.func20, Tryd.ntmps20
    go_wp2_with fail
    refine (HV.out _ ((Le.refl _).alloc _)).mono ?_; rintro e w1 ⟨rfl, q, rfl⟩
    go_wp2
    go_ret2
    exact ⟨_, rfl, own_empty _ _ _, ((Le.refl _).alloc _).drewN q⟩
  · rw [hb] at hv
    obtain ⟨hlv, hml, htk⟩ := takeOk_facts h.len hb
    obtain ⟨hn5, hf⟩ := lots_facts h.len hlv
    rw [h'.len] at hml
    subst hml
    have e0 : takeDoR ps day take = firsts ps take m := by unfold takeDoR; rw [hb, if_pos rfl]; unfold takeDoL firsts; rw [h.len]
    rw [e0]
    have HV := Lib.hid hv
    have HF := Lib.hid hf
    have HT := Lib.hid htk
    have HC := Lib.hid h.at_
    have HC2 := Lib.hid h'.at_
    clear hv hb hlv e0 h h' hf htk
    obtain ⟨i0, hi0, hz0, hz1, hz2⟩ := info_parts infoLot
    go_enter Tryd.func20, Tryd.ntmps20
    go_wp2_with fail
    refine (HV.out _ ((Le.refl _).alloc _)).mono ?_; rintro e w1 ⟨rfl, q, rfl⟩
    go_wp2
    go_loopw [8, 9] (fun v i wr => ∃ k : Nat, k ≤ m ∧ i = .int .i64 k ∧ Le w wr ∧ wr.ownsRow w.heap.size 44 2 v k (pairs (firsts ps take k))) (fun _ i _ => m - (intOf i).toNat)
    case atStart => exact ⟨0, Nat.zero_le _, rfl, ((Le.refl _).alloc _).drewN q, own_empty _ _ _⟩
    case round =>
      obtain ⟨k, hk, rfl, hle, hown⟩ := hrel
      by_cases hlt : k < m
      · obtain ⟨ad, rfl, hc1, hc2⟩ := HC.out k hlt
        obtain ⟨ad2, rfl, hc3⟩ := HC2.out k hlt
        have c1 := hle.cell hc1
        have c2 := hle.cell hc2
        have c3 := hle.cell hc3
        obtain ⟨⟨f1, f2⟩, f3, f4⟩ := HF.out k hlt
        obtain ⟨⟨t1, t2⟩, _⟩ := HT.out k hlt
        have hw : IntKind.i64.wrap ((gp ps k).1 - gi take k) = (gp ps k).1 - gi take k := IntWalk.i64_in _ (by omega)
        have p1 := World.block_lt_of_cell? w _ hc1
        have p3 := World.block_lt_of_cell? w _ hc3
        have HO := Lib.hid hown
        have HLE := Lib.hid hle
        clear hc1 hc2 hc3 hown hle
        have hs := HLE.out.size
        have a1 : u8.ownBlock ≠ some (ad.add (k * 2)).block := fun hg => Nat.lt_irrefl _ (Nat.lt_of_lt_of_le p1 (HO.out.lt _ hg).1)
        have a3 : u8.ownBlock ≠ some (ad2.add k).block := fun hg => Nat.lt_irrefl _ (Nat.lt_of_lt_of_le p3 (HO.out.lt _ hg).1)
        have l1 := World.block_lt_of_cell? wr _ c1
        have l3 := World.block_lt_of_cell? wr _ c3
        go_wp2
        go_region_held3 (fun w' => w'.cell? (ad.add (k * 2)) = some (.int .i64 (gp ps k).1) ∧ w'.cell? ⟨(ad.add (k * 2)).block, (ad.add (k * 2)).off + 1, none⟩ = some (.int .i64 (gp ps k).2) ∧ w'.cell? (ad2.add k) = some (.int .i64 (gi take k)))
          (first
            | go_keep
            | (go_split_ands
               refine ⟨?_, ?_, ?_⟩
               · (refine (hgrow.cell_far _ (by simp; omega) (Ne.symm a1)).trans ?_; assumption)
               · (refine (hgrow.cell_far ⟨(ad.add (k * 2)).block, (ad.add (k * 2)).off + 1, none⟩ (by simp; omega) (Ne.symm a1)).trans ?_; assumption)
               · (refine (hgrow.cell_far _ (by simp; omega) (Ne.symm a3)).trans ?_; assumption)))
          ((refine step_append_lies _ (by rfl) _ _ _ (by rfl) w.heap.size 44 i0 _ 2 16 Tryd.underlying30 hi0 hz0 hz1 hz2 rfl (by omega) u8 k (pairs (firsts ps take k)) (by rfl) ((HO.out.alloc _).drew)
                ⟨wr.heap.size, 0, none⟩ 1 1 [.int .i64 ((gp ps k).1 - gi take k), .int .i64 (gp ps k).2] (by rfl) (by rfl) (World.news_of_block (cs := #[.int .i64 ((gp ps k).1 - gi take k), .int .i64 (gp ps k).2]) (t := 44) (fr := (0, 0)) (heap_alloc_new wr _)) (by simp [Value.oneCell'])
                (by omega) (by unfold maxLen; omega) (by omega) (by simp; omega) (wr.heap.size + 1) (by simp) ?_; intro gg cap w2 hown' hgrow hat hlt'))
        have HO2 := Lib.hid hown'
        have HG := Lib.hid hgrow
        clear hown' hgrow hat
        go_wp2
        go_roundw
        case rel =>
          refine ⟨k + 1, by omega, by go_num, ((HLE.out.alloc _).drew.grown HG.out fun g hg => (HO.out.lt g hg).1), ?_⟩
          rw [firsts_succ, pairs_snoc]
          exact HO2.out
        case measure => simp [intOf]; omega
      · obtain rfl : k = m := by omega
        go_wp2
        go_ret2
        refine ⟨_, rfl, ?_, hle⟩
        have : (firsts ps take k).length = k := by simp [firsts]
        rw [this]
        exact hown

end Go.Proofs.YtmemenkioejdoaaDoor
