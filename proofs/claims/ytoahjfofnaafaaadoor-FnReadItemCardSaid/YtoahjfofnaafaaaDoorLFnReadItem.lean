/- Walk: FnReadItem. -/
import Derived.Test.YtoahjfofnaafaaaDoorWRdS
import Derived.Test.YtoahjfofnaafaaaDoorWSIt
import Derived.Test.YtoahjfofnaafaaaDoorWDrawI
import Derived.Test.YtoahjfofnaafaaaDoorWAlive
namespace Go.Proofs.YtoahjfofnaafaaaDoor
open Go.RowKit

theorem textT_len2 {x : It} (h : itemL x 5 = true) : 1 ≤ (textT x).length ∧ (textT x).length ≤ 30 := by
  obtain ⟨⟨y0, y1⟩, n3, _, ⟨m0, m1⟩, hp⟩ := item_facts (index := 5) h
  have h1 := numT_len (n := x.1) (by omega)
  have h2 := numT_len (n := x.2.2) (by omega)
  have h3 := partsT_len (ps := x.2.1) (n := x.2.1.length) (fun j hj => by have := hp j hj; omega) _ (Nat.le_refl _)
  unfold textT
  simp only [List.length_append, List.length_cons, List.length_nil]
  omega
theorem six_at : ∀ x, x < 6 → ∃ C : ByteArray, (#[.string ⟨#[]⟩, .string ⟨#[48]⟩, .string ⟨#[42]⟩, .string ⟨#[44]⟩, .string ⟨#[61]⟩, .string ⟨#[51]⟩] : Array Value)[x]? = some (.string C) ∧ C.size ≤ 1
  | 0, _ => ⟨_, rfl, by decide⟩
  | 1, _ => ⟨_, rfl, by decide⟩
  | 2, _ => ⟨_, rfl, by decide⟩
  | 3, _ => ⟨_, rfl, by decide⟩
  | 4, _ => ⟨_, rfl, by decide⟩
  | 5, _ => ⟨_, rfl, by decide⟩
  | n + 6, h => absurd h (by omega)
set_option maxRecDepth 20000 in
set_option maxHeartbeats 4000000 in
theorem drawReadItem_any (A : Option Addr) (n c : Nat) (w : World) (h : RB w A n) (hc : n ≤ c) :
    Calls Tryd.prog 11 #[.slice A n c] w fun e w' => ∃ Z : ByteArray, e = .returned (.string Z) ∧ Z.size ≤ 100 ∧ Le w w' := by
  have HO := Lib.hid (open_any A n c w h hc)
  clear h
  go_enter Tryd.func11, Tryd.ntmps11
  go_wp2_with fail
  refine HO.out.mono ?_; rintro e w1 ⟨rfl, r1⟩
  have HI := Lib.hid (l20Item_any _ _ _ _ _ _ _ 5 0 r1 (by omega) (by omega) (by omega))
  have hz1 := r1.lt
  obtain ⟨g, hg⟩ : ∃ g, w.heap.size = g := ⟨_, rfl⟩
  rw [hg] at HI hz1
  have HG := Lib.hid hg
  clear r1
  go_wp2_with fail
  refine HI.out.mono ?_; rintro e w2 ⟨y, mk, v, ps, p', rfl, o2, h4, _, _, hval, r2, hp2, _⟩
  have hv := hval rfl
  obtain ⟨B, d, rfl, rp⟩ := own_RP o2 (by omega)
  have HIT := Lib.hid (specItemText_any y B ps.length d mk ps w2 rp)
  rw [itemT_valid hv] at HIT
  have htl := textT_len2 hv
  have R2 := Lib.hid r2
  clear hval o2 rp r2
  go_wp2_with fail
  refine HIT.out.mono ?_; rintro e w3 ⟨rfl, l3⟩
  have R3 := Lib.hid (R2.out.more l3)
  obtain ⟨T, hT⟩ : ∃ T, textT (y, ps, mk) = T := ⟨_, rfl⟩
  rw [hT] at htl HIT ⊢
  obtain ⟨n0, hn0⟩ : ∃ n, T.length = n := ⟨_, rfl⟩
  rw [hn0] at htl
  obtain ⟨S, hS⟩ : ∃ S : ByteArray, ⟨T.toArray⟩ = S := ⟨_, rfl⟩
  have hsz : S.size = n0 := by rw [← hS]; exact hn0
  rw [hS]
  have HS := Lib.hid hS
  have HN := Lib.hid hn0
  clear l3 hT hn0 hS hv HIT
  go_wp2_with fail
  refine (pick_any _ _ _ _ _ _ _ 3 R3.out (by omega) (by omega) (by omega)).mono ?_; rintro e w4 ⟨x4, rfl, hx4, r4, _⟩
  have R4 := Lib.hid r4
  clear r4
  by_cases h0 : x4 = 0
  · have h0' : ((x4 : Int) == 0) = true := by rw [beq_iff_eq]; omega
    clear h0
    go_wp2_with fail
    refine (pick_any _ _ _ _ _ _ _ n0 R4.out (by omega) (by omega) (by omega)).mono ?_; rintro e w5 ⟨x5, rfl, hx5, r5, _⟩
    have R5 := Lib.hid r5
    clear r5
    obtain ⟨E1, sl, hE1⟩ : ∃ E1 : ByteArray, (∀ w', (Instr.slice 9 (.string S) none (some (.int .i64 (x5 : Int))) none).run Tryd.prog w' = .ok (.string E1) w') ∧ E1.size ≤ 30 :=
      ⟨S.extract 0 (x5 : Int).toNat, fun w' => run_slice_string_h w' 9 S Tryd.underlying9 .i64 (x5 : Int) (by omega) (by omega), by rw [ByteArray.size_extract]; omega⟩
    obtain ⟨E2, sf, hE2⟩ : ∃ E2 : ByteArray, (∀ w', (Instr.slice 9 (.string S) (some (.int .i64 ((x5 : Int) + 1))) none none).run Tryd.prog w' = .ok (.string E2) w') ∧ E2.size ≤ 30 :=
      ⟨S.extract ((x5 : Int) + 1).toNat S.size, fun w' => run_slice_string_l w' 9 S Tryd.underlying9 .i64 ((x5 : Int) + 1) (by omega) (by omega), by rw [ByteArray.size_extract]; omega⟩
    have hxw : IntKind.i64.wrap ((x5 : Int) + 1) = (x5 : Int) + 1 := IntWalk.i64_in _ (by omega)
    go_wp2
    have hT : True := trivial
    refine wp_region_held_drew (S := fun _ => True) (by kernel_rfl) hT (fun _ => ?_)
    refine wpAnyH_takeL (i := 0) (v := ?_) rfl (by kernel_rfl) (by kernel_rfl) (by kernel_rfl) (fun _ _ _ h => h) (Or.inl ⟨by rfl, ?_⟩) (by assumption) ?_
    rotate_left
    · (intro w' hSw; (try dsimp only at hSw); go_simp; all_goals with_reducible rfl)
    repeat (first | simp only [Act.put] | simp only [List.setIfInBounds_toArray] | simp only [List.set_cons_succ] | simp only [List.set_cons_zero])
    refine wpAnyH_takeL (i := 1) (v := ?_) rfl (by kernel_rfl) (by kernel_rfl) (by kernel_rfl) (fun _ _ _ h => h) (Or.inl ⟨by rfl, ?_⟩) (by assumption) ?_
    rotate_left
    · (intro w' hSw; (try dsimp only at hSw); go_simp; all_goals with_reducible rfl)
    repeat (first | simp only [Act.put] | simp only [List.setIfInBounds_toArray] | simp only [List.set_cons_succ] | simp only [List.set_cons_zero])
    refine wpAnyH_takeL (i := 2) (v := ?_) rfl (by kernel_rfl) (by kernel_rfl) (by kernel_rfl) (fun _ _ _ h => h) (Or.inl ⟨by rfl, ?_⟩) (by assumption) ?_
    rotate_left
    · (intro w' hSw; (try dsimp only at hSw); go_simp; all_goals with_reducible rfl)
    repeat (first | simp only [Act.put] | simp only [List.setIfInBounds_toArray] | simp only [List.set_cons_succ] | simp only [List.set_cons_zero])
    refine wpAnyH_takeL (i := 4) (v := ?_) rfl (by kernel_rfl) (by kernel_rfl) (by kernel_rfl) (fun _ _ _ h => h) (Or.inl ⟨by rfl, ?_⟩) (by assumption) ?_
    rotate_left
    · (intro w' hSw; (try dsimp only at hSw); go_simp; all_goals with_reducible rfl)
    repeat (first | simp only [Act.put] | simp only [List.setIfInBounds_toArray] | simp only [List.set_cons_succ] | simp only [List.set_cons_zero])
    refine wpAnyH_takeL (i := 9) (v := ?_) rfl (by kernel_rfl) (by kernel_rfl) (by kernel_rfl) (fun _ _ _ h => h) (Or.inl ⟨by rfl, ?_⟩) (by assumption) ?_
    rotate_left
    · (intro w' hSw; (try dsimp only at hSw); go_simp; all_goals with_reducible rfl)
    repeat (first | simp only [Act.put] | simp only [List.setIfInBounds_toArray] | simp only [List.set_cons_succ] | simp only [List.set_cons_zero])
    refine wpAnyH_takeL (i := 10) (v := ?_) rfl (by kernel_rfl) (by kernel_rfl) (by kernel_rfl) (fun _ _ _ h => h) (Or.inl ⟨by rfl, ?_⟩) (by assumption) ?_
    rotate_left
    · (intro w' hSw; (try dsimp only at hSw); go_simp; all_goals with_reducible rfl)
    repeat (first | simp only [Act.put] | simp only [List.setIfInBounds_toArray] | simp only [List.set_cons_succ] | simp only [List.set_cons_zero])
    refine wpAnyH_takeL (i := 11) (v := ?_) rfl (by kernel_rfl) (by kernel_rfl) (by kernel_rfl) (fun _ _ _ h => h) (Or.inl ⟨by rfl, ?_⟩) (by assumption) ?_
    rotate_left
    · (intro w' hSw; (try dsimp only at hSw); go_simp; all_goals with_reducible rfl)
    repeat (first | simp only [Act.put] | simp only [List.setIfInBounds_toArray] | simp only [List.set_cons_succ] | simp only [List.set_cons_zero])
    refine wpAnyH_takeL (i := 12) (v := ?_) rfl (by kernel_rfl) (by kernel_rfl) (by kernel_rfl) (fun _ _ _ h => h) (Or.inl ⟨by rfl, ?_⟩) (by assumption) ?_
    rotate_left
    · (intro w' hSw; (try dsimp only at hSw); go_simp; all_goals with_reducible rfl)
    repeat (first | simp only [Act.put] | simp only [List.setIfInBounds_toArray] | simp only [List.set_cons_succ] | simp only [List.set_cons_zero])
    refine wpAnyH_ready (rs := [3, 5]) (by kernel_rfl) (by simp) ?_
    refine consL (i := 3) rfl (fun K hK => ?_) ?_
    · go_simp
      have kb := (Blk.new w5 9 #[.string ⟨#[]⟩, .string ⟨#[48]⟩, .string ⟨#[42]⟩, .string ⟨#[44]⟩, .string ⟨#[61]⟩, .string ⟨#[51]⟩]).drew
      have la := ((Le.refl w5).alloc (.cells #[.string ⟨#[]⟩, .string ⟨#[48]⟩, .string ⟨#[42]⟩, .string ⟨#[44]⟩, .string ⟨#[61]⟩, .string ⟨#[51]⟩] 9)).drew
      have hg5 := R5.out.lt
      refine hK.out _ _ hT (fun _ => ?_)
      clear hK K
      repeat (first | simp only [Act.put] | simp only [List.setIfInBounds_toArray] | simp only [List.set_cons_succ] | simp only [List.set_cons_zero])
      refine wpAnyH_ready (rs := [5]) (by kernel_rfl) (by simp) ?_
      refine consL (i := 5) rfl (fun K hK => ?_) AllReadyH.nil
      go_simp
      refine (pick_any _ _ _ _ _ _ _ 6 (R5.out.more la) (by omega) (by omega) (by omega)).mono ?_; rintro e w6 ⟨x6, rfl, hx6, r6, c6⟩
      have k6 : Blk w6 w5.heap.size 9 #[.string ⟨#[]⟩, .string ⟨#[48]⟩, .string ⟨#[42]⟩, .string ⟨#[44]⟩, .string ⟨#[61]⟩, .string ⟨#[51]⟩] := (c6.block _ kb.lt (.inr hg5)).trans kb
      have R6 := Lib.hid r6
      clear r6 c6 kb la
      obtain ⟨C, hC, hCs⟩ := six_at x6 hx6
      have cC := (k6.cell x6).trans hC
      have hx6' : (x6 : Int) < 6 := by omega
      have hd1 : ¬ 9223372036854775807 < E1.size + C.size := by omega
      have hd2 : ¬ 9223372036854775807 < E1.size + C.size + E2.size := by omega
      refine hK.out _ _ hT (fun _ => ?_)
      clear hK K
      repeat (first | simp only [Act.put] | simp only [List.setIfInBounds_toArray] | simp only [List.set_cons_succ] | simp only [List.set_cons_zero])
      refine wpAnyH_ready (rs := [6]) (by kernel_rfl) (by simp) ?_
      refine consL (i := 6) rfl (fun K hK => ?_) AllReadyH.nil
      go_simp
      refine hK.out _ _ hT (fun _ => ?_)
      clear hK K
      repeat (first | simp only [Act.put] | simp only [List.setIfInBounds_toArray] | simp only [List.set_cons_succ] | simp only [List.set_cons_zero])
      refine wpAnyH_ready (rs := [7]) (by kernel_rfl) (by simp) ?_
      refine consL (i := 7) rfl (fun K hK => ?_) AllReadyH.nil
      go_simp
      refine hK.out _ _ hT (fun _ => ?_)
      clear hK K
      repeat (first | simp only [Act.put] | simp only [List.setIfInBounds_toArray] | simp only [List.set_cons_succ] | simp only [List.set_cons_zero])
      refine wpAnyH_takeL (i := 8) (v := ?_) rfl (by kernel_rfl) (by kernel_rfl) (by kernel_rfl) (fun _ _ _ h => h) (Or.inl ⟨by rfl, ?_⟩) (by assumption) ?_
      rotate_left
      · (intro w' hSw; (try dsimp only at hSw); go_simp; all_goals with_reducible rfl)
      repeat (first | simp only [Act.put] | simp only [List.setIfInBounds_toArray] | simp only [List.set_cons_succ] | simp only [List.set_cons_zero])
      refine wpAnyH_takeL (i := 13) (v := ?_) rfl (by kernel_rfl) (by kernel_rfl) (by kernel_rfl) (fun _ _ _ h => h) (Or.inl ⟨by rfl, ?_⟩) (by assumption) ?_
      rotate_left
      · (intro w' hSw; (try dsimp only at hSw); go_simp; all_goals with_reducible rfl)
      repeat (first | simp only [Act.put] | simp only [List.setIfInBounds_toArray] | simp only [List.set_cons_succ] | simp only [List.set_cons_zero])
      refine wpAnyH_takeL (i := 14) (v := ?_) rfl (by kernel_rfl) (by kernel_rfl) (by kernel_rfl) (fun _ _ _ h => h) (Or.inl ⟨by rfl, ?_⟩) (by assumption) ?_
      rotate_left
      · (intro w' hSw; (try dsimp only at hSw); go_simp; all_goals with_reducible rfl)
      repeat (first | simp only [Act.put] | simp only [List.setIfInBounds_toArray] | simp only [List.set_cons_succ] | simp only [List.set_cons_zero])
      refine wpAnyH_done (by kernel_rfl) ?_ _
      go_wp2
      go_ret
      exact ⟨_, rfl, by simp only [ByteArray.size_append']; omega, R6.out.le⟩
    refine consL (i := 5) rfl (fun K hK => ?_) AllReadyH.nil
    go_simp
    refine (pick_any _ _ _ _ _ _ _ 6 (R5.out.more ((Le.refl w5).drew)) (by omega) (by omega) (by omega)).mono ?_; rintro e w6 ⟨x6, rfl, hx6, r6, _⟩
    have R6 := Lib.hid r6
    clear r6
    refine hK.out _ _ hT (fun _ => ?_)
    clear hK K
    repeat (first | simp only [Act.put] | simp only [List.setIfInBounds_toArray] | simp only [List.set_cons_succ] | simp only [List.set_cons_zero])
    refine wpAnyH_ready (rs := [3]) (by kernel_rfl) (by simp) ?_
    refine consL (i := 3) rfl (fun K hK => ?_) AllReadyH.nil
    go_simp
    obtain ⟨C, hC, hCs⟩ := six_at x6 hx6
    have cC := ((Blk.new w6 9 #[.string ⟨#[]⟩, .string ⟨#[48]⟩, .string ⟨#[42]⟩, .string ⟨#[44]⟩, .string ⟨#[61]⟩, .string ⟨#[51]⟩]).cell x6).trans hC
    have hx6' : (x6 : Int) < 6 := by omega
    have hd1 : ¬ 9223372036854775807 < E1.size + C.size := by omega
    have hd2 : ¬ 9223372036854775807 < E1.size + C.size + E2.size := by omega
    refine hK.out _ _ hT (fun _ => ?_)
    clear hK K
    repeat (first | simp only [Act.put] | simp only [List.setIfInBounds_toArray] | simp only [List.set_cons_succ] | simp only [List.set_cons_zero])
    refine wpAnyH_ready (rs := [6]) (by kernel_rfl) (by simp) ?_
    refine consL (i := 6) rfl (fun K hK => ?_) AllReadyH.nil
    go_simp
    refine hK.out _ _ hT (fun _ => ?_)
    clear hK K
    repeat (first | simp only [Act.put] | simp only [List.setIfInBounds_toArray] | simp only [List.set_cons_succ] | simp only [List.set_cons_zero])
    refine wpAnyH_ready (rs := [7]) (by kernel_rfl) (by simp) ?_
    refine consL (i := 7) rfl (fun K hK => ?_) AllReadyH.nil
    go_simp
    refine hK.out _ _ hT (fun _ => ?_)
    clear hK K
    repeat (first | simp only [Act.put] | simp only [List.setIfInBounds_toArray] | simp only [List.set_cons_succ] | simp only [List.set_cons_zero])
    refine wpAnyH_takeL (i := 8) (v := ?_) rfl (by kernel_rfl) (by kernel_rfl) (by kernel_rfl) (fun _ _ _ h => h) (Or.inl ⟨by rfl, ?_⟩) (by assumption) ?_
    rotate_left
    · (intro w' hSw; (try dsimp only at hSw); go_simp; all_goals with_reducible rfl)
    repeat (first | simp only [Act.put] | simp only [List.setIfInBounds_toArray] | simp only [List.set_cons_succ] | simp only [List.set_cons_zero])
    refine wpAnyH_takeL (i := 13) (v := ?_) rfl (by kernel_rfl) (by kernel_rfl) (by kernel_rfl) (fun _ _ _ h => h) (Or.inl ⟨by rfl, ?_⟩) (by assumption) ?_
    rotate_left
    · (intro w' hSw; (try dsimp only at hSw); go_simp; all_goals with_reducible rfl)
    repeat (first | simp only [Act.put] | simp only [List.setIfInBounds_toArray] | simp only [List.set_cons_succ] | simp only [List.set_cons_zero])
    refine wpAnyH_takeL (i := 14) (v := ?_) rfl (by kernel_rfl) (by kernel_rfl) (by kernel_rfl) (fun _ _ _ h => h) (Or.inl ⟨by rfl, ?_⟩) (by assumption) ?_
    rotate_left
    · (intro w' hSw; (try dsimp only at hSw); go_simp; all_goals with_reducible rfl)
    repeat (first | simp only [Act.put] | simp only [List.setIfInBounds_toArray] | simp only [List.set_cons_succ] | simp only [List.set_cons_zero])
    refine wpAnyH_done (by kernel_rfl) ?_ _
    go_wp2
    go_ret
    exact ⟨_, rfl, by simp only [ByteArray.size_append']; omega, R6.out.le.alloc _⟩
  · have h0' : ((x4 : Int) == 0) = false := by rw [beq_eq_false_iff_ne]; omega
    clear h0
    go_wp2
    go_ret
    exact ⟨S, rfl, by omega, R4.out.le⟩
set_option maxRecDepth 20000 in
set_option maxHeartbeats 8000000 in
theorem law_FnReadItem (w : World) (A : Option Addr) (n c : Nat) (h : RB w A n) (hc : n ≤ c) (hcm : CM w) :
    Calls Tryd.prog 3 #[.slice A n c] w fun e w' => e = .returned (.bool true) ∧ Le w w' := by
  have hm := h.max
  by_cases hn : 1048576 < n
  · clear hcm
    go_enter Tryd.func3, Tryd.ntmps3
    go_wp2
    go_ret
    exact ⟨rfl, Le.refl _⟩
  · have HD := Lib.hid (drawReadItem_any A n c w h hc)
    have HCM := Lib.hid (fun w' (l : Le w w') => hcm.le l)
    clear h hcm
    go_enter Tryd.func3, Tryd.ntmps3
    go_wp2_with fail
    refine HD.out.mono ?_; rintro e w1 ⟨Z, rfl, hz, l1⟩
    obtain ⟨l, rfl⟩ : ∃ l : Bs, Z = ⟨l.toArray⟩ := ⟨Z.data.toList, by simp⟩
    have hl : l.length ≤ 100 := hz
    have L1 := Lib.hid l1
    have HI := Lib.hid (fun w' (q : Le w w') => implReadItem_any l (by omega) w' (HCM.out _ q))
    have hsp : ∀ w', Calls Tryd.prog 13 #[.string ⟨l.toArray⟩] w' (ReadQ w' (readI l)) := fun w' => by
      rw [read_agree]; exact specReadItem_any l (by omega) w'
    have HSP := Lib.hid hsp
    have HMO := Lib.hid (fun w' (q : Le w w') => implReadItem_any (l ++ [33]) (by simp; omega) w' (HCM.out _ q))
    have HTX := Lib.hid (fun (x : It) (hx : readI l = some x) => readI_some hx)
    obtain ⟨o, ho⟩ : ∃ o, readI l = o := ⟨_, rfl⟩
    rw [ho] at HI HSP HTX
    have hap : (⟨(l ++ [33]).toArray⟩ : ByteArray) = ⟨l.toArray⟩ ++ ⟨#[33]⟩ := by
      rw [show (⟨#[33]⟩ : ByteArray) = ⟨([33] : Bs).toArray⟩ from rfl, ByteArray.mk_append_mk]
    rw [hap] at HMO
    obtain ⟨S, hS⟩ : ∃ S : ByteArray, ⟨l.toArray⟩ = S := ⟨_, rfl⟩
    rw [hS] at HI HSP HMO hz ⊢
    have HS := Lib.hid hS
    have hd1 : ¬ 9223372036854775807 < S.size + 1 := by omega
    have hbb : (o.isSome != o.isSome) = false := by simp
    clear hsp hap hS ho l1
    go_wp2_with fail
    refine (HI.out _ L1.out).mono ?_; rintro e w2 ⟨y, v, mk, ps, rfl, ho1, o2, l2⟩
    obtain ⟨A2, c2, rfl, r2⟩ := own_RP o2 (own_max o2)
    have la := (Le.refl w2).alloc (.cells #[.int .i64 y, .slice A2 ps.length c2, .int .i64 mk] 26)
    have k3 := Blk.new w2 26 #[.int .i64 y, .slice A2 ps.length c2, .int .i64 mk]
    obtain ⟨w3, hw3⟩ : ∃ w3, w2.alloc (.cells #[.int .i64 y, .slice A2 ps.length c2, .int .i64 mk] 26) = w3 := ⟨_, rfl⟩
    rw [hw3] at la k3
    obtain ⟨b4, hb4⟩ : ∃ b, w2.heap.size = b := ⟨_, rfl⟩
    rw [hb4] at k3
    have L3 := Lib.hid (L1.out.trans (l2.trans la))
    have K3 := Lib.hid (fun w' (q : Le w3 w') => k3.le q)
    have R3 := Lib.hid (fun w' (q : Le w3 w') => (r2.le la).le q)
    have HO1 := Lib.hid ho1
    clear ho1 o2 l2 r2 la k3
    go_wp2_with fail
    refine (HSP.out _).mono ?_; rintro e w4 ⟨y', v', mk', ps', rfl, ho2, o4, l4⟩
    have he := HO1.out.symm.trans ho2
    injection he with e1 e2
    injection e2 with e2 e3
    subst e1; subst e2; subst e3
    obtain ⟨A4, c4, rfl, r4⟩ := own_RP o4 (own_max o4)
    have la := (Le.refl w4).alloc (.cells #[.int .i64 y, .slice A4 ps.length c4, .int .i64 mk] 26)
    have k5 := Blk.new w4 26 #[.int .i64 y, .slice A4 ps.length c4, .int .i64 mk]
    clear hw3 hb4
    obtain ⟨w5, hw5⟩ : ∃ w5, w4.alloc (.cells #[.int .i64 y, .slice A4 ps.length c4, .int .i64 mk] 26) = w5 := ⟨_, rfl⟩
    rw [hw5] at la k5
    obtain ⟨b6, hb6⟩ : ∃ b, w4.heap.size = b := ⟨_, rfl⟩
    rw [hb6] at k5
    have M5 := Lib.hid (l4.trans la)
    have R5 := Lib.hid (r4.le la)
    have a0 := (K3.out _ M5.out).cell 0
    have a1 := (K3.out _ M5.out).cell 1
    have a2 := (K3.out _ M5.out).cell 2
    have d0 := k5.cell 0
    have d1 := k5.cell 1
    have d2 := k5.cell 2
    simp at a0 a1 a2 d0 d1 d2
    clear ho2 o4 l4 r4 la k5
    go_wp2_with fail
    refine (sameItem_self _ _ _ _ _ _ _ ps _ (R3.out _ M5.out) R5.out).mono ?_; rintro e w6 ⟨rfl, l6⟩
    have M6 := Lib.hid (M5.out.trans l6)
    clear l6 a0 a1 a2 d0 d1 d2 hw5 hb6
    have a0 := (K3.out _ M6.out).cell 0
    have a1 := (K3.out _ M6.out).cell 1
    have a2 := (K3.out _ M6.out).cell 2
    simp at a0 a1 a2
    cases o with
    | none =>
      have he : ((0 : Int), ([] : List (Int × Int)), (0 : Int)) = (y, ps, mk) := HO1.out
      injection he with e1 e2
      injection e2 with e2 e3
      subst e1; subst e2; subst e3
      go_wp2_with fail
      refine (sameItem_self 0 A2 none 0 c2 0 0 [] _ (R3.out _ M6.out) (RP.nil _)).mono ?_; rintro e w7 ⟨rfl, l7⟩
      go_wp2_with fail
      refine (alive_any _).mono ?_; rintro e w8 ⟨rfl, l8⟩
      go_wp2
      go_ret
      exact ⟨rfl, L3.out.trans (M6.out.trans (l7.trans l8))⟩
    | some x =>
      have hx : x = (y, ps, mk) := HO1.out
      subst hx
      obtain ⟨hv, hlt⟩ := HTX.out _ rfl
      have hno : readI (l ++ [33]) = none := by rw [hlt]; exact read_more _
      rw [hno] at HMO
      have HTT := Lib.hid (show (⟨(itemT (y, ps, mk)).toArray⟩ : ByteArray) = S from by rw [itemT_valid hv, ← hlt, HS.out])
      clear hv hlt hno
      go_wp2_with fail
      refine (HMO.out _ (L3.out.trans M6.out)).mono ?_; rintro e w7 ⟨y7, v7, mk7, ps7, rfl, ho7, o7, l7⟩
      have he : ((0 : Int), ([] : List (Int × Int)), (0 : Int)) = (y7, ps7, mk7) := ho7
      injection he with e1 e2
      injection e2 with e2 e3
      subst e1; subst e2; subst e3
      obtain ⟨A7, c7, rfl, r7⟩ := own_RP o7 (own_max o7)
      have la := (Le.refl w7).alloc (.cells #[.int .i64 0, .slice A7 0 c7, .int .i64 0] 26)
      have M7 := Lib.hid (M6.out.trans (l7.trans la))
      clear a0 a1 a2 ho7 o7 l7 r7 la
      have a0 := (K3.out _ M7.out).cell 0
      have a1 := (K3.out _ M7.out).cell 1
      have a2 := (K3.out _ M7.out).cell 2
      simp at a0 a1 a2
      go_wp2_with fail
      refine (implItemText_any _ _ _ _ _ ps _ (R3.out _ M7.out)).mono ?_; rintro e w8 ⟨rfl, l8⟩
      rw [HTT.out]
      go_wp2
      go_ret
      exact ⟨rfl, L3.out.trans (M7.out.trans l8)⟩
end Go.Proofs.YtoahjfofnaafaaaDoor
