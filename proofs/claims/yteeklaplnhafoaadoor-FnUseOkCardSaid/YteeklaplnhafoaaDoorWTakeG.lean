/- Walk: TakeFirst of the program. -/
import Derived.Test.YteeklaplnhafoaaDoorWTakeF
import Derived.Test.YteeklaplnhafoaaDoorWSortC
namespace Go.Proofs.YteeklaplnhafoaaDoor
open Go.RowKit

def oT (ps : List (Int × Int)) (day want : Int) (n : Nat) (ys : List Int) (q : Nat) : List Int × Int := (ys.take q).foldl (stepO ps day) (initT n want)
theorem oT_succ (ps : List (Int × Int)) (day want : Int) (n : Nat) (ys : List Int) {q : Nat} (hq : q < ys.length) : oT ps day want n ys (q + 1) = stepO ps day (oT ps day want n ys q) (gi ys q) := by
  unfold oT
  have : ys.take (q + 1) = ys.take q ++ [gi ys q] := by
    rw [List.take_add_one, gi_getElem? hq]; rfl
  rw [this, List.foldl_append]; rfl
theorem oT_all (ps : List (Int × Int)) (day want : Int) (n : Nat) (ys : List Int) (hl : ys.length = n) : oT ps day want n ys n = ys.foldl (stepO ps day) (initT n want) := by
  unfold oT; rw [List.take_of_length_le (by omega)]
theorem OkT.foldO {ps : List (Int × Int)} {n : Nat} {day : Int} (hg : ∀ k, 0 ≤ (gp ps k).1) (ys : List Int) : ∀ {s : List Int × Int}, OkT n s → OkT n (ys.foldl (stepO ps day) s) := by
  induction ys with
  | nil => intro s h; exact h
  | cons y ys ih =>
    intro s h
    refine ih ?_
    unfold stepO
    split
    · exact h
    · exact h.step (hg _)

theorem foldT_length (ps : List (Int × Int)) (ks : List Nat) : ∀ s : List Int × Int, (ks.foldl (stepT ps) s).1.length = s.1.length := by
  induction ks with
  | nil => intro s; rfl
  | cons k ks ih => intro s; rw [List.foldl_cons, ih]; simp [stepT]
theorem takeFirstL_le {ps : List (Int × Int)} {day want : Int} {n m : Nat} (hl : ps.length = n) (h : n ≤ m) : (takeFirstL ps day want).length ≤ m := by
  unfold takeFirstL
  split
  · unfold sT; rw [foldT_length]; simp [initT]; omega
  · exact Nat.zero_le _
theorem imin2 (a b : Int) : (if b < a then b else a) = min b a := by split <;> omega

set_option maxRecDepth 20000 in
set_option maxHeartbeats 4000000 in
theorem implTakeFirst_any (A : Option Addr) (n c : Nat) (ps : List (Int × Int)) (day want : Int) (w : World) (h : RP w A n ps) :
    Calls Tryd.prog 46 #[.slice A n c, .int .i64 day, .int .i64 want] w fun e w' => ∃ v, e = .returned v ∧ w'.ownsRow w.heap.size 3 1 v (takeFirstL ps day want).length (ints (takeFirstL ps day want)) ∧ Le w w' := by
  have hv := implLotsValid_any A n c ps w h
  cases hb : lotsL ps
  · rw [hb] at hv
    have e0 : takeFirstL ps day want = [] := by simp [takeFirstL, hb]
    rw [e0]
    have HV := Lib.hid hv
    clear hv hb e0 h
    go_enter Tryd.func46, Tryd.ntmps46
    go_wp2_with (go_at_call 28; refine HV.out.mono ?_; rintro e w1 ⟨rfl, l1⟩)
    go_ret
    exact ⟨_, rfl, World.ownsRow_nil _ _ _ _, l1⟩
  · rw [hb] at hv
    by_cases hwr : 0 ≤ want ∧ want ≤ 50
    · obtain ⟨hw0, hw1⟩ := hwr
      have hb2 : inB 0 50 want = true := inB_t.2 ⟨hw0, hw1⟩
      obtain ⟨hn5, hf⟩ := lots_facts h.len hb
      have e0 : takeFirstL ps day want = (sT ps day want n 6).1 := by unfold takeFirstL; rw [hb, hb2, Bool.true_and, if_pos rfl, h.len]
      rw [e0]
      have hgn := gp_nonneg h.len hf
      have hok : ∀ ys q, OkT n (oT ps day want n ys q) := fun ys q => OkT.foldO hgn _ (OkT.init hw0 hw1)
      have hso := fun w' (l : Le w w') => spoilOrder_any A n c ps w' (h.le l) (by omega) hf
      have hfin : ∀ ys, Pre ps ys n n → oT ps day want n ys n = sT ps day want n 6 := fun ys hpre => by
        rw [oT_all _ _ _ _ _ hpre.len]; exact order_take hpre (by omega) hf
      have HV := Lib.hid hv
      have HF := Lib.hid hf
      have HK := Lib.hid hok
      have HC := Lib.hid h.at_
      have HSO := Lib.hid hso
      have HFI := Lib.hid hfin
      clear hv hf hok hgn h e0 hb hb2 hso hfin
      have hmk := run_mk (P := Tryd.prog) 24 3 (.int .i64 0) 1 8 Tryd.underlying24 infoInt n (by omega) (by omega)
      go_enter Tryd.func46, Tryd.ntmps46
      go_wp2_with (first
        | (go_at_call 28; refine HV.out.mono ?_; rintro e w1 ⟨rfl, l1⟩)
        | (go_at_call 72; refine (HSO.out _ (l1.alloc _)).mono ?_; rintro e w2 ⟨g, ys, rfl, hg, b2, hpre, l2⟩))
      have hblk0 : BlkI w2 w1.heap.size (initT n want).1 := by
        unfold BlkI initT; rw [ints_replicate]; exact (Blk.new _ _ _).le l2
      have hg1 : w1.heap.size < g := by simp at hg; omega
      have hlw2 : Le w w2 := (l1.alloc _).trans l2
      have hsz := l1.size
      have HPR := Lib.hid hpre
      have HL2 := Lib.hid hlw2
      have HB0 := Lib.hid hblk0
      have HB2 := Lib.hid b2
      clear hmk hpre hlw2 hblk0 b2 l2 l1 hg
      go_loopw [2, 27] (fun v i wr => ∃ q : Nat, q ≤ n ∧ i = .int .i64 q ∧ v = .int .i64 (oT ps day want n ys q).2 ∧ Le w wr ∧ BlkI wr w1.heap.size (oT ps day want n ys q).1 ∧ BlkI wr g ys) (fun _ i _ => n - (intOf i).toNat)
      case atStart => exact ⟨0, Nat.zero_le _, rfl, rfl, HL2.out, HB0.out, HB2.out⟩
      case round =>
        obtain ⟨q, hq, rfl, rfl, hle, hblk, hblk2⟩ := hrel
        have hyl := HPR.out.len
        by_cases hlt : q < n
        · have hlo := HPR.out.lo q hlt
          obtain ⟨k, hk⟩ : ∃ k : Nat, gi ys q = k := ⟨(gi ys q).toNat, by omega⟩
          have hkn : k < n := by omega
          have g1 := hblk2.cell_ (j := q) (by omega)
          rw [hk] at g1
          obtain ⟨ad, rfl, hc1, hc2⟩ := HC.out k hkn
          have c1 := hle.cell hc1
          have c2 := hle.cell hc2
          obtain ⟨⟨f1, f2⟩, f3, f4⟩ := HF.out k hkn
          obtain ⟨o1, o2, o3⟩ := HK.out ys q
          have ts := oT_succ ps day want n ys (q := q) (by omega)
          rw [hk] at ts
          have d1 := hblk.cell_ (j := k) (by omega)
          have z1 := Blk.frozen hblk k
          have hst : stepO ps day (oT ps day want n ys q) (k : Int) = if (gp ps k).2 < day then oT ps day want n ys q else stepT ps (oT ps day want n ys q) k := by
            unfold stepO lastOf; rw [Int.toNat_natCast]
          rw [hst] at ts
          have HB := Lib.hid hblk
          have HBY := Lib.hid hblk2
          have HLE := Lib.hid hle
          clear hc1 hc2 hblk hle hblk2 hlo hk hst
          by_cases hd : (gp ps k).2 < day
          · rw [if_pos hd] at ts
            have TS := Lib.hid ts
            clear ts
            go_wp2
            go_roundw
            case rel => exact ⟨q + 1, by omega, by go_num, by rw [TS.out], HLE.out, by rw [TS.out]; exact HB.out, HBY.out⟩
            case measure => simp [intOf]; omega
          · rw [if_neg hd] at ts
            have TS := Lib.hid ts
            clear ts
            go_wp2
            simp only [imin2]
            go_roundw
            case rel => exact ⟨q + 1, by omega, by go_num, by rw [TS.out]; rfl, HLE.out.setCell hsz _, by rw [TS.out]; exact HB.out.set1 _ _, Blk.far HBY.out (by simp; omega) _⟩
            case measure => simp [intOf]; omega
        · obtain rfl : q = n := by omega
          have hfn := HFI.out ys HPR.out
          rw [hfn] at hblk ⊢
          have hln : (sT ps day want q 6).1.length = q := by rw [← hfn]; exact (HK.out ys q).1
          clear hfn
          go_wp2
          go_ret
          refine ⟨_, rfl, ?_, hle⟩
          rw [hln]
          exact Blk.ownI hblk hsz hln (by omega)
    · have hb2 : inB 0 50 want = false := inB_f.2 (by omega)
      have e0 : takeFirstL ps day want = [] := by simp [takeFirstL, hb2]
      rw [e0]
      have HV := Lib.hid hv
      clear hv hb hb2 e0 h
      by_cases hw0 : want < 0
      · go_enter Tryd.func46, Tryd.ntmps46
        go_wp2_with (go_at_call 28; refine HV.out.mono ?_; rintro e w1 ⟨rfl, l1⟩)
        go_ret
        exact ⟨_, rfl, World.ownsRow_nil _ _ _ _, l1⟩
      · go_enter Tryd.func46, Tryd.ntmps46
        go_wp2_with (go_at_call 28; refine HV.out.mono ?_; rintro e w1 ⟨rfl, l1⟩)
        go_ret
        exact ⟨_, rfl, World.ownsRow_nil _ _ _ _, l1⟩

end Go.Proofs.YteeklaplnhafoaaDoor
