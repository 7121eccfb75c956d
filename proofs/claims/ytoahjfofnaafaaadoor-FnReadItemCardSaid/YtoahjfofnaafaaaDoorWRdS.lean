/- Walk: ReadItem of the reference. -/
import Derived.Test.YtoahjfofnaafaaaDoorWRdI
import Derived.Test.YtoahjfofnaafaaaDoorWDrawI
namespace Go.Proofs.YtoahjfofnaafaaaDoor
open Go.RowKit

theorem toList_ne {l : Bs} (h : l ≠ []) : (⟨l.toArray⟩ : ByteArray).toList.isEmpty = false := by
  rw [ByteArray.toList_eq]
  cases l with
  | nil => exact absurd rfl h
  | cons _ _ => rfl
theorem toList_nil {l : Bs} (h : l = []) : (⟨l.toArray⟩ : ByteArray).toList.isEmpty = true := by
  rw [ByteArray.toList_eq, h]; rfl
theorem cutM {X G : Prop} (f : X → G) (x : X) : G := f x
theorem candS_no {l : Bs} (h : (pieces 33 l).length ≠ 2) : candS l = none := by
  unfold candS
  cases h1 : pieces 33 l with
  | nil => rfl
  | cons u r =>
    cases r with
    | nil => rfl
    | cons v r =>
      cases r with
      | nil => rw [h1] at h; exact absurd rfl h
      | cons x r => rfl
theorem candS_no2 {l u v : Bs} (h1 : pieces 33 l = [u, v]) (h : (pieces 61 u).length ≠ 2) : candS l = none := by
  unfold candS
  rw [h1]
  cases h2 : pieces 61 u with
  | nil => simp only [h2]
  | cons a r =>
    cases r with
    | nil => simp only [h2]
    | cons b r =>
      cases r with
      | nil => rw [h2] at h; exact absurd rfl h
      | cons x r => simp only [h2]
theorem candS_ab {l u v a b : Bs} (h1 : pieces 33 l = [u, v]) (h2 : pieces 61 u = [a, b]) :
    candS l = match (if b = [] then some [] else partsS (pieces 44 b)) with | none => none | some ps => some (l1ReadL a, ps, l1ReadL v) := by
  unfold candS
  rw [h1]
  simp only [h2]
  rfl
theorem partS_no {p : Bs} (h : (pieces 42 p).length ≠ 2) : partS p = none := by
  unfold partS
  cases h1 : pieces 42 p with
  | nil => rfl
  | cons u r =>
    cases r with
    | nil => rfl
    | cons v r =>
      cases r with
      | nil => rw [h1] at h; exact absurd rfl h
      | cons x r => rfl
theorem partS_ab {p a b : Bs} (h1 : pieces 42 p = [a, b]) : partS p = some (l1ReadL a, l1ReadL b) := by
  unfold partS; rw [h1]
theorem partsS_snoc (p : Bs) : ∀ (ps : List Bs), partsS (ps ++ [p]) = match partsS ps, partS p with | some xs, some x => some (xs ++ [x]) | _, _ => none
  | [] => by
    show (match partS p, partsS [] with | some x, some xs => some (x :: xs) | _, _ => none) = _
    cases partS p <;> rfl
  | q :: ps => by
    show (match partS q, partsS (ps ++ [p]) with | some x, some xs => some (x :: xs) | _, _ => none) = (match (match partS q, partsS ps with | some x, some xs => some (x :: xs) | _, _ => none), partS p with | some xs, some x => some (xs ++ [x]) | _, _ => none)
    rw [partsS_snoc p ps]
    cases partS q <;> cases partsS ps <;> cases partS p <;> rfl
theorem partsS_none : ∀ {ps : List Bs} {k : Nat}, k < ps.length → partS (ps.getD k []) = none → partsS ps = none
  | [], _, h, _ => absurd h (by simp)
  | q :: ps, 0, _, e => by
    show (match partS q, partsS ps with | some x, some xs => some (x :: xs) | _, _ => none) = none
    rw [show partS q = none from e]
  | q :: ps, k + 1, h, e => by
    show (match partS q, partsS ps with | some x, some xs => some (x :: xs) | _, _ => none) = none
    rw [partsS_none (ps := ps) (k := k) (by simpa using h) (by simpa using e)]
    cases partS q <;> rfl
theorem two_of {ps : List Bs} (h : ps.length = 2) : ∃ u v, ps = [u, v] := by
  match ps, h with
  | [u, v], _ => exact ⟨u, v, rfl⟩
theorem RSt.two {w : World} {A : Option Addr} {u v : Bs} (h : RSt w A 2 [u, v]) : ∃ ad : Addr, A = some ad ∧ w.cell? ad = some (.string ⟨u.toArray⟩) ∧ w.cell? ⟨ad.block, ad.off + 1, none⟩ = some (.string ⟨v.toArray⟩) := by
  obtain ⟨ad, rfl, c0⟩ := h.at_ 0 (by omega)
  obtain ⟨ad', e, c1⟩ := h.at_ 1 (by omega)
  injection e with e
  subst e
  refine ⟨ad, rfl, ?_, ?_⟩
  · simpa [Addr.add_zero'] using c0
  · simpa [Addr.add_succ'] using c1
/-- rows of texts stand while the box of an item turns -/
theorem RSt.chg {w w' : World} {A : Option Addr} {n bo : Nat} {ps : List Bs} {t : TypeId} {y mk : Int} {B : Option Addr} {m c : Nat} (h : RSt w A n ps) (hb : Blk w bo t #[.int .i64 y, .slice B m c, .int .i64 mk]) (hc : Chg bo (bo + 1) w w') : RSt w' A n ps :=
  ⟨h.len, h.max, fun k hk => by
    obtain ⟨ad, e, hcell⟩ := h.at_ k hk
    refine ⟨ad, e, ?_⟩
    have hlt := World.block_lt_of_cell? w _ hcell
    by_cases e2 : (ad.add k).block = bo
    · exfalso
      have hs : w.heap[(ad.add k).block]? = some (.cells #[.int .i64 y, .slice B m c, .int .i64 mk] t (0, 0)) := by rw [e2]; exact hb
      have hc2 : (#[.int .i64 y, .slice B m c, .int .i64 mk] : Array Value)[(ad.add k).off]? = some (.string ⟨(ps.getD k []).toArray⟩) := by
        unfold World.cell? at hcell
        rw [hs] at hcell
        by_cases h : (ad.add k).spot.isSome = true
        · simp [h] at hcell
        · simpa [h] using hcell
      generalize (ad.add k).off = o at hc2
      match o, hc2 with
      | 0, h => simp at h
      | 1, h => simp at h
      | 2, h => simp at h
      | o + 3, h => simp at h
    · exact (World.cell?_of_block (w := w) (hc.block _ hlt (by omega))).trans hcell⟩
set_option maxRecDepth 20000 in
set_option maxHeartbeats 8000000 in
theorem specReadItem_any (l : Bs) (hl : l.length ≤ 1048577) (w : World) :
    Calls Tryd.prog 13 #[.string ⟨l.toArray⟩] w (ReadQ w (readS l)) := by
  have l0 := (Le.refl w).alloc (.cells #[.int .i64 0, .slice none 0 0, .int .i64 0] 26)
  have k0 := Blk.new w 26 #[.int .i64 0, .slice none 0 0, .int .i64 0]
  obtain ⟨wz, hwz⟩ : ∃ wz, w.alloc (.cells #[.int .i64 0, .slice none 0 0, .int .i64 0] 26) = wz := ⟨_, rfl⟩
  rw [hwz] at l0 k0
  obtain ⟨b, hbb⟩ : ∃ b, w.heap.size = b := ⟨_, rfl⟩
  rw [hbb] at k0
  have hbz := k0.lt
  have K0 := Lib.hid (fun w' (l : Le wz w') => k0.le l)
  have L0 := Lib.hid l0
  have HB := Lib.hid hbb
  obtain ⟨i0, hi0, hz0, hz1, hz2⟩ := info_parts infoPart
  have c33 : (((33 : UInt8).toNat : Nat) : Int) = 33 := rfl
  have c61 : (((61 : UInt8).toNat : Nat) : Int) = 61 := rfl
  have c44 : (((44 : UInt8).toNat : Nat) : Int) = 44 := rfl
  have c42 : (((42 : UInt8).toNat : Nat) : Int) = 42 := rfl
  have h33 := fun (t : Bs) (ht : t.length ≤ 1048577) w' => l1Cut_any t 33 ht w'
  have h61 := fun (t : Bs) (ht : t.length ≤ 1048577) w' => l1Cut_any t 61 ht w'
  have h44 := fun (t : Bs) (ht : t.length ≤ 1048577) w' => l1Cut_any t 44 ht w'
  have h42 := fun (t : Bs) (ht : t.length ≤ 1048577) w' => l1Cut_any t 42 ht w'
  rw [c33] at h33
  rw [c61] at h61
  rw [c44] at h44
  rw [c42] at h42
  have H33 := Lib.hid (h33 l hl wz)
  have H61 := Lib.hid h61
  have H44 := Lib.hid h44
  have H42 := Lib.hid h42
  obtain ⟨r, hr⟩ : ∃ r, readS l = r := ⟨_, rfl⟩
  rw [hr]
  have HRD := Lib.hid (show (if l = [] then none else match candS l with | none => none | some x => if itemT x = l then some x else none) = r from hr)
  have HNO := Lib.hid (show candS l = none → r = none from fun e => by
    rw [← HRD.out, e]; split <;> rfl)
  have HNE := Lib.hid (fun (t : Bs) (h : t ≠ l) => ba_ne h)
  have HCN := Lib.hid (candS_no (l := l))
  have HPL := Lib.hid (fun k (hk : k < (pieces 33 l).length) => Nat.le_trans (piece_len' (c := 33) (l := l) hk) hl)
  have hlne : l = [] → (pieces 33 l).length = 1 := fun e => by rw [e]; rfl
  obtain ⟨P1, hP1⟩ : ∃ P, pieces 33 l = P := ⟨_, rfl⟩
  rw [hP1] at H33 HCN HPL hlne
  obtain ⟨p1, hp1⟩ : ∃ p, P1.length = p := ⟨_, rfl⟩
  rw [hp1] at H33 HCN HPL hlne
  have HP1 := Lib.hid hP1
  have HLN := Lib.hid hp1
  have HLE := Lib.hid hlne
  obtain ⟨S, hS⟩ : ∃ S : ByteArray, ⟨l.toArray⟩ = S := ⟨_, rfl⟩
  rw [hS] at H33 HNE ⊢
  have HS := Lib.hid hS
  clear hr hP1 hp1 hS h33 h61 h44 h42 c33 c61 c44 c42 l0 k0 hlne
  go_enter Tryd.func13, Tryd.ntmps13
  go_wp2_with fail
  refine H33.out.mono ?_; rintro e w1 ⟨A1, d1, rfl, r1, _, l1⟩
  have R1 := Lib.hid r1
  have L1 := Lib.hid l1
  clear r1 l1
  by_cases e2 : p1 = 2
  · subst e2
    obtain ⟨u, v, rfl⟩ := two_of HLN.out
    obtain ⟨ad1, rfl, t0, t1⟩ := R1.out.two
    have HT0 := Lib.hid t0
    have HT1 := Lib.hid t1
    clear t1
    have hu : u.length ≤ 1048577 := HPL.out 0 (by omega)
    have hv : v.length ≤ 1048577 := HPL.out 1 (by omega)
    have HC2 := Lib.hid (candS_no2 HP1.out)
    have HCB := Lib.hid (fun a q (h : pieces 61 u = [a, q]) => candS_ab HP1.out h)
    have HPL2 := Lib.hid (fun k (hk : k < (pieces 61 u).length) => Nat.le_trans (piece_len' (c := 61) (l := u) hk) hu)
    have H2 := Lib.hid (H61.out u hu w1)
    obtain ⟨P2, hP2⟩ : ∃ P, pieces 61 u = P := ⟨_, rfl⟩
    rw [hP2] at H2 HC2 HCB HPL2
    obtain ⟨p2, hp2⟩ : ∃ p, P2.length = p := ⟨_, rfl⟩
    rw [hp2] at H2 HC2 HPL2
    have HLN2 := Lib.hid hp2
    obtain ⟨U, hU⟩ : ∃ S : ByteArray, ⟨u.toArray⟩ = S := ⟨_, rfl⟩
    rw [hU] at H2 t0
    obtain ⟨V, hV⟩ : ∃ S : ByteArray, ⟨v.toArray⟩ = S := ⟨_, rfl⟩
    have HV := Lib.hid hV
    clear hP2 hp2 hU hV
    go_wp2_with fail
    refine H2.out.mono ?_; rintro e w2 ⟨A2, d2, rfl, r2, _, l2⟩
    have R2 := Lib.hid r2
    have L2 := Lib.hid (L1.out.trans l2)
    have LS := Lib.hid l2
    clear r2 l2 t0
    by_cases e3 : p2 = 2
    · subst e3
      obtain ⟨a, q, rfl⟩ := two_of HLN2.out
      obtain ⟨ad2, rfl, t2, t3⟩ := R2.out.two
      have hq := HPL2.out 1 (by omega)
      have ha := HPL2.out 0 (by omega)
      have hq : q.length ≤ 1048577 := hq
      have ha : a.length ≤ 1048577 := ha
      have t1 := LS.out.cell HT1.out
      have HT2 := Lib.hid t2
      have HT3 := Lib.hid t3
      have hcab := HCB.out a q rfl
      have HCAB := Lib.hid hcab
      obtain ⟨Aa, hAa⟩ : ∃ S : ByteArray, ⟨a.toArray⟩ = S := ⟨_, rfl⟩
      obtain ⟨Q, hQ⟩ : ∃ S : ByteArray, ⟨q.toArray⟩ = S := ⟨_, rfl⟩
      have HRA := Lib.hid (fun w' => l1Read_any a (by omega) w')
      have HRV := Lib.hid (fun w' => l1Read_any v (by omega) w')
      obtain ⟨ya, hya⟩ : ∃ y, l1ReadL a = y := ⟨_, rfl⟩
      obtain ⟨mv, hmv⟩ : ∃ y, l1ReadL v = y := ⟨_, rfl⟩
      rw [hya, hmv] at HCAB
      rw [hya] at HRA
      rw [hmv] at HRV
      rw [hAa] at t2 HRA
      rw [HV.out] at t1 HRV
      rw [hQ] at t3
      have HQ := Lib.hid hQ
      clear hcab hAa hya hmv hQ HPL HPL2 HC2 HCB HCN H61 H33 H2
      go_wp2
      apply cutM
      · intro HX
        have hS : Le w2 w2.drew := (Le.refl w2).drew
        refine wp_region_last (fun w' => Le w2 w') 10 _ rfl (by kernel_rfl) (by kernel_rfl) ?_
        simp only [List.setIfInBounds_toArray, List.set_cons_zero, List.set_cons_succ, idle]
        refine wpAnyH_takeL (i := 0) (v := ?_) rfl (by kernel_rfl) (by kernel_rfl) (by kernel_rfl) (fun _ _ _ h => h) (Or.inl ⟨by rfl, ?_⟩) (by assumption) ?_
        rotate_left
        · (intro w' hSw; (try dsimp only at hSw); go_simp; all_goals with_reducible rfl)
        repeat (first | simp only [Act.put] | simp only [List.setIfInBounds_toArray] | simp only [List.set_cons_succ] | simp only [List.set_cons_zero])
        refine wpAnyH_takeL (i := 1) (v := ?_) rfl (by kernel_rfl) (by kernel_rfl) (by kernel_rfl) (fun _ _ _ h => h) (Or.inl ⟨by rfl, ?_⟩) (by assumption) ?_
        rotate_left
        · (intro w' hSw; (try dsimp only at hSw); go_simp; all_goals with_reducible rfl)
        repeat (first | simp only [Act.put] | simp only [List.setIfInBounds_toArray] | simp only [List.set_cons_succ] | simp only [List.set_cons_zero])
        refine wpAnyH_takeL (i := 2) (v := ?_) rfl (by kernel_rfl) (by kernel_rfl) (by kernel_rfl) (fun _ _ _ h => h) (Or.inl ⟨by rfl, ?_⟩) (by assumption) ?_
        rotate_left
        · (intro w' hSw; have cX0 := hSw.cell t2; (try dsimp only at hSw); go_simp; all_goals with_reducible rfl)
        repeat (first | simp only [Act.put] | simp only [List.setIfInBounds_toArray] | simp only [List.set_cons_succ] | simp only [List.set_cons_zero])
        refine wpAnyH_takeL (i := 4) (v := ?_) rfl (by kernel_rfl) (by kernel_rfl) (by kernel_rfl) (fun _ _ _ h => h) (Or.inl ⟨by rfl, ?_⟩) (by assumption) ?_
        rotate_left
        · (intro w' hSw; (try dsimp only at hSw); go_simp; all_goals with_reducible rfl)
        repeat (first | simp only [Act.put] | simp only [List.setIfInBounds_toArray] | simp only [List.set_cons_succ] | simp only [List.set_cons_zero])
        refine wpAnyH_takeL (i := 5) (v := ?_) rfl (by kernel_rfl) (by kernel_rfl) (by kernel_rfl) (fun _ _ _ h => h) (Or.inl ⟨by rfl, ?_⟩) (by assumption) ?_
        rotate_left
        · (intro w' hSw; (try dsimp only at hSw); go_simp; all_goals with_reducible rfl)
        repeat (first | simp only [Act.put] | simp only [List.setIfInBounds_toArray] | simp only [List.set_cons_succ] | simp only [List.set_cons_zero])
        refine wpAnyH_takeL (i := 6) (v := ?_) rfl (by kernel_rfl) (by kernel_rfl) (by kernel_rfl) (fun _ _ _ h => h) (Or.inl ⟨by rfl, ?_⟩) (by assumption) ?_
        rotate_left
        · (intro w' hSw; have cX0 := hSw.cell t1; (try dsimp only at hSw); go_simp; all_goals with_reducible rfl)
        repeat (first | simp only [Act.put] | simp only [List.setIfInBounds_toArray] | simp only [List.set_cons_succ] | simp only [List.set_cons_zero])
        refine wpAnyH_ready (rs := [3, 9]) (by kernel_rfl) (by simp) ?_
        refine consL (i := 3) rfl (fun K hK => ?_) ?_
        · go_simp
          refine (HRA.out _).mono ?_; rintro e w' ⟨rfl, rfl⟩
          refine hK.out _ _ hS (fun _ => ?_)
          clear hK K
          repeat (first | simp only [Act.put] | simp only [List.setIfInBounds_toArray] | simp only [List.set_cons_succ] | simp only [List.set_cons_zero])
          refine wpAnyH_ready (rs := [7, 9]) (by kernel_rfl) (by simp) ?_
          refine consL (i := 7) rfl (fun K hK => ?_) ?_
          · go_simp
            refine (HRV.out _).mono ?_; rintro e w' ⟨rfl, rfl⟩
            refine hK.out _ _ hS (fun _ => ?_)
            clear hK K
            repeat (first | simp only [Act.put] | simp only [List.setIfInBounds_toArray] | simp only [List.set_cons_succ] | simp only [List.set_cons_zero])
            refine wpAnyH_takeL (i := 8) (v := ?_) rfl (by kernel_rfl) (by kernel_rfl) (by kernel_rfl) (fun _ _ _ h => h) (Or.inl ⟨by rfl, ?_⟩) (by assumption) ?_
            rotate_left
            · (intro w' hSw; (try dsimp only at hSw); go_simp; all_goals with_reducible rfl)
            repeat (first | simp only [Act.put] | simp only [List.setIfInBounds_toArray] | simp only [List.set_cons_succ] | simp only [List.set_cons_zero])
            refine wpAnyH_ready (rs := [9]) (by kernel_rfl) (by simp) ?_
            refine consL (i := 9) rfl (fun K hK => ?_) AllReadyH.nil
            go_simp
            refine hK.out _ _ (hS.alloc _) (fun _ => ?_)
            clear hK K
            repeat (first | simp only [Act.put] | simp only [List.setIfInBounds_toArray] | simp only [List.set_cons_succ] | simp only [List.set_cons_zero])
            refine wpAnyH_takeL (i := 10) (v := ?_) rfl (by kernel_rfl) (by kernel_rfl) (by kernel_rfl) (fun _ _ _ h => h) (Or.inl ⟨by rfl, ?_⟩) (by assumption) ?_
            rotate_left
            · (intro w' hSw; (try dsimp only at hSw); go_simp; all_goals with_reducible rfl)
            repeat (first | simp only [Act.put] | simp only [List.setIfInBounds_toArray] | simp only [List.set_cons_succ] | simp only [List.set_cons_zero])
            refine wpAnyH_done (by kernel_rfl) ?_ _
            exact HX
          refine consL (i := 9) rfl (fun K hK => ?_) AllReadyH.nil
          go_simp
          refine hK.out _ _ (hS.alloc _) (fun _ => ?_)
          clear hK K
          repeat (first | simp only [Act.put] | simp only [List.setIfInBounds_toArray] | simp only [List.set_cons_succ] | simp only [List.set_cons_zero])
          refine wpAnyH_ready (rs := [7]) (by kernel_rfl) (by simp) ?_
          refine consL (i := 7) rfl (fun K hK => ?_) AllReadyH.nil
          go_simp
          refine (HRV.out _).mono ?_; rintro e w' ⟨rfl, rfl⟩
          refine hK.out _ _ (hS.alloc _) (fun _ => ?_)
          clear hK K
          repeat (first | simp only [Act.put] | simp only [List.setIfInBounds_toArray] | simp only [List.set_cons_succ] | simp only [List.set_cons_zero])
          refine wpAnyH_takeL (i := 8) (v := ?_) rfl (by kernel_rfl) (by kernel_rfl) (by kernel_rfl) (fun _ _ _ h => h) (Or.inl ⟨by rfl, ?_⟩) (by assumption) ?_
          rotate_left
          · (intro w' hSw; (try dsimp only at hSw); go_simp; all_goals with_reducible rfl)
          repeat (first | simp only [Act.put] | simp only [List.setIfInBounds_toArray] | simp only [List.set_cons_succ] | simp only [List.set_cons_zero])
          refine wpAnyH_takeL (i := 10) (v := ?_) rfl (by kernel_rfl) (by kernel_rfl) (by kernel_rfl) (fun _ _ _ h => h) (Or.inl ⟨by rfl, ?_⟩) (by assumption) ?_
          rotate_left
          · (intro w' hSw; (try dsimp only at hSw); go_simp; all_goals with_reducible rfl)
          repeat (first | simp only [Act.put] | simp only [List.setIfInBounds_toArray] | simp only [List.set_cons_succ] | simp only [List.set_cons_zero])
          refine wpAnyH_done (by kernel_rfl) ?_ _
          exact HX
        refine consL (i := 9) rfl (fun K hK => ?_) AllReadyH.nil
        go_simp
        refine hK.out _ _ (hS.alloc _) (fun _ => ?_)
        clear hK K
        repeat (first | simp only [Act.put] | simp only [List.setIfInBounds_toArray] | simp only [List.set_cons_succ] | simp only [List.set_cons_zero])
        refine wpAnyH_ready (rs := [3]) (by kernel_rfl) (by simp) ?_
        refine consL (i := 3) rfl (fun K hK => ?_) AllReadyH.nil
        go_simp
        refine (HRA.out _).mono ?_; rintro e w' ⟨rfl, rfl⟩
        refine hK.out _ _ (hS.alloc _) (fun _ => ?_)
        clear hK K
        repeat (first | simp only [Act.put] | simp only [List.setIfInBounds_toArray] | simp only [List.set_cons_succ] | simp only [List.set_cons_zero])
        refine wpAnyH_ready (rs := [7]) (by kernel_rfl) (by simp) ?_
        refine consL (i := 7) rfl (fun K hK => ?_) AllReadyH.nil
        go_simp
        refine (HRV.out _).mono ?_; rintro e w' ⟨rfl, rfl⟩
        refine hK.out _ _ (hS.alloc _) (fun _ => ?_)
        clear hK K
        repeat (first | simp only [Act.put] | simp only [List.setIfInBounds_toArray] | simp only [List.set_cons_succ] | simp only [List.set_cons_zero])
        refine wpAnyH_takeL (i := 8) (v := ?_) rfl (by kernel_rfl) (by kernel_rfl) (by kernel_rfl) (fun _ _ _ h => h) (Or.inl ⟨by rfl, ?_⟩) (by assumption) ?_
        rotate_left
        · (intro w' hSw; (try dsimp only at hSw); go_simp; all_goals with_reducible rfl)
        repeat (first | simp only [Act.put] | simp only [List.setIfInBounds_toArray] | simp only [List.set_cons_succ] | simp only [List.set_cons_zero])
        refine wpAnyH_takeL (i := 10) (v := ?_) rfl (by kernel_rfl) (by kernel_rfl) (by kernel_rfl) (fun _ _ _ h => h) (Or.inl ⟨by rfl, ?_⟩) (by assumption) ?_
        rotate_left
        · (intro w' hSw; (try dsimp only at hSw); go_simp; all_goals with_reducible rfl)
        repeat (first | simp only [Act.put] | simp only [List.setIfInBounds_toArray] | simp only [List.set_cons_succ] | simp only [List.set_cons_zero])
        refine wpAnyH_done (by kernel_rfl) ?_ _
        exact HX
      show Oper.wp _ _ _ _ _ _
      go_simp
      have k3 := (Blk.new w2 26 #[.int .i64 ya, .slice none 0 0, .int .i64 mv]).drew
      have l3 : Le w2 ((w2.alloc (.cells #[.int .i64 ya, .slice none 0 0, .int .i64 mv] 26)).drew) := ((Le.refl w2).alloc _).drew
      obtain ⟨w3, hw3⟩ : ∃ w3, (w2.alloc (.cells #[.int .i64 ya, .slice none 0 0, .int .i64 mv] 26)).drew = w3 := ⟨_, rfl⟩
      rw [hw3] at k3 l3 ⊢
      obtain ⟨bo, hbo⟩ : ∃ bo, w2.heap.size = bo := ⟨_, rfl⟩
      rw [hbo] at k3 ⊢
      have HBO := Lib.hid hbo
      have T3 := Lib.hid (fun w' (l : Le w2 w') => l.cell t3)
      have t3' := T3.out _ l3
      have L3 := Lib.hid l3
      have K3 := Lib.hid k3
      clear hw3 hbo t1 t2 t3 k3 l3
      have H4 := Lib.hid (H44.out q hq w3)
      have HP4L := Lib.hid (fun k (hk : k < (pieces 44 q).length) => Nat.le_trans (piece_len' (c := 44) (l := q) hk) hq)
      have hcnt := pieces_cnt' 44 q
      obtain ⟨P4, hP4⟩ : ∃ P, pieces 44 q = P := ⟨_, rfl⟩
      rw [hP4] at H4 HP4L HCAB hcnt
      obtain ⟨m, hm⟩ : ∃ m, P4.length = m := ⟨_, rfl⟩
      rw [hm] at H4 HP4L hcnt
      have HML := Lib.hid hm
      rw [HQ.out] at H4
      clear hP4 hm
      go_wp2_with fail
      refine H4.out.mono ?_; rintro e w4 ⟨A4, d4, rfl, r4, _, l4⟩
      have R4 := Lib.hid r4
      have L4 := Lib.hid (L3.out.trans l4)
      have K4 := Lib.hid (K3.out.le l4)
      have LZ4 := Lib.hid (L2.out.trans L4.out)
      have hzb : wz.heap.size ≤ bo := by rw [← HBO.out]; exact L2.out.size
      clear r4 l4 t3' H4 H44
      go_wp2
      go_loopw [8] (fun i wr => ∃ (k : Nat) (xs : List (Int × Int)) (v : Value), k ≤ m ∧ i = .int .i64 (k : Int) ∧ partsS (P4.take k) = some xs ∧ xs.length = k ∧ (q = [] → k = 0) ∧ wr.ownsRow w4.heap.size 80 2 v k (pairs xs) ∧ Blk wr bo 26 #[.int .i64 ya, v, .int .i64 mv] ∧ Chg bo (bo + 1) w4 wr) (fun i _ => m - (intOf i).toNat)
      case atStart => exact ⟨0, [], _, Nat.zero_le _, rfl, rfl, rfl, fun _ => rfl, own_nil _ _ _ _, K4.out, Chg.refl _ _ _⟩
      case round =>
        obtain ⟨k, xs, v5, hk, rfl, hpo, hxl, hq0, hown, hblk, hchg⟩ := hrel
        obtain ⟨Bv, cv, rfl, hrp⟩ := own_RP hown (by omega)
        have RW := Lib.hid (R4.out.chg K4.out hchg)
        have LW2 := Lib.hid (hchg.le L4.out (Nat.le_of_eq HBO.out))
        have LWZ := Lib.hid (hchg.le LZ4.out hzb)
        have OW := Lib.hid hown
        have KB := Lib.hid hblk
        have CH := Lib.hid hchg
        have HPO := Lib.hid hpo
        have HQ0 := Lib.hid hq0
        have HRP := Lib.hid hrp
        have tq := T3.out _ LW2.out
        have hbr : bo < wr.heap.size := hblk.lt
        clear hown hblk hchg hpo hq0 hrp
        by_cases hlt : k < m ∧ q ≠ []
        · obtain ⟨hlt, hqn⟩ := hlt
          have hqe : Q.toList.isEmpty = false := by rw [← HQ.out]; exact toList_ne hqn
          obtain ⟨ad4, hA4, c4⟩ := RW.out.at_ k hlt
          subst hA4
          have hp4 := HP4L.out k hlt
          have HTS := Lib.hid (show partsS (P4.take (k + 1)) = match some xs, partS (P4.getD k []) with | some xs, some x => some (xs ++ [x]) | _, _ => none from by
            rw [take_snoc (by rw [HML.out]; exact hlt), partsS_snoc, HPO.out])
          have HTN := Lib.hid (fun (e : partS (P4.getD k []) = none) => partsS_none (ps := P4) (k := k) (by rw [HML.out]; exact hlt) e)
          obtain ⟨p, hp⟩ : ∃ p, P4.getD k [] = p := ⟨_, rfl⟩
          rw [hp] at c4 hp4 HTS HTN
          have H5 := Lib.hid (H42.out p hp4 wr)
          have HPN := Lib.hid (partS_no (p := p))
          have HPA := Lib.hid (fun a b (h : pieces 42 p = [a, b]) => partS_ab h)
          have HPL5 := Lib.hid (fun k (hk : k < (pieces 42 p).length) => Nat.le_trans (piece_len' (c := 42) (l := p) hk) hp4)
          obtain ⟨P5, hP5⟩ : ∃ P, pieces 42 p = P := ⟨_, rfl⟩
          rw [hP5] at H5 HPN HPA HPL5
          obtain ⟨s5, hs5⟩ : ∃ s, P5.length = s := ⟨_, rfl⟩
          rw [hs5] at H5 HPN HPL5
          have HL5 := Lib.hid hs5
          obtain ⟨Pp, hPp⟩ : ∃ S : ByteArray, ⟨p.toArray⟩ = S := ⟨_, rfl⟩
          rw [hPp] at c4 H5
          clear hp hP5 hs5 hPp
          go_wp2_with fail
          refine H5.out.mono ?_; rintro e w5 ⟨A5, d5, rfl, r5, n5, l5⟩
          have R5 := Lib.hid r5
          have N5 := Lib.hid n5
          have L5 := Lib.hid l5
          clear r5 n5 l5 c4 tq
          by_cases e5 : s5 = 2
          · subst e5
            obtain ⟨a5, b5, rfl⟩ := two_of HL5.out
            obtain ⟨ad5, rfl, t5, t6⟩ := R5.out.two
            have ha5 : a5.length ≤ 1048577 := HPL5.out 0 (by omega)
            have hb5 : b5.length ≤ 1048577 := HPL5.out 1 (by omega)
            have HRA5 := Lib.hid (fun w' => l1Read_any a5 (by omega) w')
            have HRB5 := Lib.hid (fun w' => l1Read_any b5 (by omega) w')
            have hpab := HPA.out a5 b5 rfl
            obtain ⟨xa, hxa⟩ : ∃ y, l1ReadL a5 = y := ⟨_, rfl⟩
            obtain ⟨xb, hxb⟩ : ∃ y, l1ReadL b5 = y := ⟨_, rfl⟩
            rw [hxa] at HRA5
            rw [hxb] at HRB5
            rw [hxa, hxb] at hpab
            have HTX := Lib.hid (show partsS (P4.take (k + 1)) = some (xs ++ [(xa, xb)]) from by rw [HTS.out, hpab])
            obtain ⟨A5s, hA5s⟩ : ∃ S : ByteArray, ⟨a5.toArray⟩ = S := ⟨_, rfl⟩
            obtain ⟨B5s, hB5s⟩ : ∃ S : ByteArray, ⟨b5.toArray⟩ = S := ⟨_, rfl⟩
            rw [hA5s] at t5 HRA5
            rw [hB5s] at t6 HRB5
            have t4 := (KB.out.le L5.out).cell 1
            simp at t4
            have O5 := Lib.hid (own_Le OW.out L5.out)
            have C5 := Lib.hid (CH.out.more L5.out)
            have hw45 := C5.out.size
            have hbo4 : bo < w4.heap.size := K4.out.lt
            clear hxa hxb hA5s hB5s hpab HTS HTN HPN HPA HPL5 H5
            go_wp2
            have hHeld : (fun w' : World => w'.cell? ⟨bo, 1, none⟩ = some (.slice Bv k cv) ∧ w'.cell? ad5 = some (.string A5s) ∧ w'.cell? ⟨ad5.block, ad5.off + 1, none⟩ = some (.string B5s)) w5.drew := ⟨t4, t5, t6⟩
            refine wp_region_last (fun w' : World => w'.cell? ⟨bo, 1, none⟩ = some (.slice Bv k cv) ∧ w'.cell? ad5 = some (.string A5s) ∧ w'.cell? ⟨ad5.block, ad5.off + 1, none⟩ = some (.string B5s)) 14 _ rfl (by kernel_rfl) (by kernel_rfl) ?_
            simp only [List.setIfInBounds_toArray, List.set_cons_zero, List.set_cons_succ, idle]
            refine wpAnyH_takeL (i := 0) (v := ?_) rfl (by kernel_rfl) (by kernel_rfl) (by kernel_rfl) (fun _ _ _ h => h) (Or.inl ⟨by rfl, ?_⟩) (by assumption) ?_
            rotate_left
            · (intro w' hSw; (try dsimp only at hSw); go_simp; all_goals with_reducible rfl)
            repeat (first | simp only [Act.put] | simp only [List.setIfInBounds_toArray] | simp only [List.set_cons_succ] | simp only [List.set_cons_zero])
            refine wpAnyH_takeL (i := 1) (v := ?_) rfl (by kernel_rfl) (by kernel_rfl) (by kernel_rfl) (fun _ _ _ h => h) (Or.inl ⟨by rfl, ?_⟩) (by assumption) ?_
            rotate_left
            · (intro w' hSw; have cX0 := hSw.1; (try dsimp only at hSw); go_simp; all_goals with_reducible rfl)
            repeat (first | simp only [Act.put] | simp only [List.setIfInBounds_toArray] | simp only [List.set_cons_succ] | simp only [List.set_cons_zero])
            refine wpAnyH_takeL (i := 2) (v := ?_) rfl (by kernel_rfl) (by kernel_rfl) (by kernel_rfl) (fun _ _ _ h => h) (Or.inl ⟨by rfl, ?_⟩) (by assumption) ?_
            rotate_left
            · (intro w' hSw; (try dsimp only at hSw); go_simp; all_goals with_reducible rfl)
            repeat (first | simp only [Act.put] | simp only [List.setIfInBounds_toArray] | simp only [List.set_cons_succ] | simp only [List.set_cons_zero])
            refine wpAnyH_takeL (i := 3) (v := ?_) rfl (by kernel_rfl) (by kernel_rfl) (by kernel_rfl) (fun _ _ _ h => h) (Or.inl ⟨by rfl, ?_⟩) (by assumption) ?_
            rotate_left
            · (intro w' hSw; (try dsimp only at hSw); go_simp; all_goals with_reducible rfl)
            repeat (first | simp only [Act.put] | simp only [List.setIfInBounds_toArray] | simp only [List.set_cons_succ] | simp only [List.set_cons_zero])
            refine wpAnyH_takeL (i := 4) (v := ?_) rfl (by kernel_rfl) (by kernel_rfl) (by kernel_rfl) (fun _ _ _ h => h) (Or.inl ⟨by rfl, ?_⟩) (by assumption) ?_
            rotate_left
            · (intro w' hSw; have cX0 := hSw.2.1; (try dsimp only at hSw); go_simp; all_goals with_reducible rfl)
            repeat (first | simp only [Act.put] | simp only [List.setIfInBounds_toArray] | simp only [List.set_cons_succ] | simp only [List.set_cons_zero])
            refine wpAnyH_takeL (i := 6) (v := ?_) rfl (by kernel_rfl) (by kernel_rfl) (by kernel_rfl) (fun _ _ _ h => h) (Or.inl ⟨by rfl, ?_⟩) (by assumption) ?_
            rotate_left
            · (intro w' hSw; (try dsimp only at hSw); go_simp; all_goals with_reducible rfl)
            repeat (first | simp only [Act.put] | simp only [List.setIfInBounds_toArray] | simp only [List.set_cons_succ] | simp only [List.set_cons_zero])
            refine wpAnyH_takeL (i := 7) (v := ?_) rfl (by kernel_rfl) (by kernel_rfl) (by kernel_rfl) (fun _ _ _ h => h) (Or.inl ⟨by rfl, ?_⟩) (by assumption) ?_
            rotate_left
            · (intro w' hSw; (try dsimp only at hSw); go_simp; all_goals with_reducible rfl)
            repeat (first | simp only [Act.put] | simp only [List.setIfInBounds_toArray] | simp only [List.set_cons_succ] | simp only [List.set_cons_zero])
            refine wpAnyH_takeL (i := 8) (v := ?_) rfl (by kernel_rfl) (by kernel_rfl) (by kernel_rfl) (fun _ _ _ h => h) (Or.inl ⟨by rfl, ?_⟩) (by assumption) ?_
            rotate_left
            · (intro w' hSw; have cX0 := hSw.2.2; (try dsimp only at hSw); go_simp; all_goals with_reducible rfl)
            repeat (first | simp only [Act.put] | simp only [List.setIfInBounds_toArray] | simp only [List.set_cons_succ] | simp only [List.set_cons_zero])
            refine wpAnyH_ready (rs := [5]) (by kernel_rfl) (by simp) ?_
            refine consL (i := 5) rfl (fun K hK => ?_) AllReadyH.nil
            go_simp
            refine (HRA5.out _).mono ?_; rintro e w' ⟨rfl, rfl⟩
            refine hK.out _ _ hHeld (fun _ => ?_)
            clear hK K
            repeat (first | simp only [Act.put] | simp only [List.setIfInBounds_toArray] | simp only [List.set_cons_succ] | simp only [List.set_cons_zero])
            refine wpAnyH_ready (rs := [9]) (by kernel_rfl) (by simp) ?_
            refine consL (i := 9) rfl (fun K hK => ?_) AllReadyH.nil
            go_simp
            refine (HRB5.out _).mono ?_; rintro e w' ⟨rfl, rfl⟩
            refine hK.out _ _ hHeld (fun _ => ?_)
            clear hK K
            repeat (first | simp only [Act.put] | simp only [List.setIfInBounds_toArray] | simp only [List.set_cons_succ] | simp only [List.set_cons_zero])
            refine wpAnyH_takeL (i := 10) (v := ?_) rfl (by kernel_rfl) (by kernel_rfl) (by kernel_rfl) (fun _ _ _ h => h) (Or.inl ⟨by rfl, ?_⟩) (by assumption) ?_
            rotate_left
            · (intro w' hSw; (try dsimp only at hSw); go_simp; all_goals with_reducible rfl)
            repeat (first | simp only [Act.put] | simp only [List.setIfInBounds_toArray] | simp only [List.set_cons_succ] | simp only [List.set_cons_zero])
            refine wpAnyH_ready (rs := [11]) (by kernel_rfl) (by simp) ?_
            refine consL (i := 11) rfl (fun K hK => ?_) AllReadyH.nil
            go_simp
            have la := ((Le.refl w5).alloc (.cells #[.int .i64 xa, .int .i64 xb] 80)).drew
            refine hK.out _ _ ⟨la.cell t4, la.cell t5, la.cell t6⟩ (fun _ => ?_)
            clear hK K
            repeat (first | simp only [Act.put] | simp only [List.setIfInBounds_toArray] | simp only [List.set_cons_succ] | simp only [List.set_cons_zero])
            refine wpAnyH_ready (rs := [12]) (by kernel_rfl) (by simp) ?_
            refine consL (i := 12) rfl (fun K hK => ?_) AllReadyH.nil
            refine step_append_own (by rfl) (some 70) (by rfl) _ _ 24 (by rfl) w4.heap.size 80 i0 _ 2 16 Tryd.underlying24 hi0 hz0 hz1 hz2 rfl (by decide) (.slice Bv k cv) k (pairs xs) (by rfl) (O5.out.alloc _) ⟨w5.heap.size, 0, none⟩ 1 1 [.int .i64 xa, .int .i64 xb] (by rfl) rfl (cell_two' w5 _ rfl _ _ _) (fun u hu => by simp at hu; rcases hu with rfl | rfl <;> rfl) (by unfold maxLen; omega) (by omega) (by simp; omega) ?_
            intro v14 w14 hown14 hgrow14 _
            obtain ⟨g14, c14, rfl⟩ : ∃ g14 c14, v14 = .slice (some ⟨g14, 0, none⟩) (k + 1) c14 := by
              rcases hown14.2 with ⟨_, e⟩ | ⟨g', cap', cur, e, _⟩
              · omega
              · exact ⟨g', cap', e⟩
            have hne14 : ∀ q, (Value.slice Bv k cv).ownBlock = some q → w4.heap.size ≤ q := fun q hq => (O5.out.lt q hq).1
            have K14 := Lib.hid (((KB.out.le L5.out).le la).grown hgrow14 (fun e => by have := hne14 bo e.symm; omega))
            have C14 := Lib.hid ((C5.out.more la).row hgrow14 hne14)
            have O14 := Lib.hid hown14
            have u4 := K14.out.cell 1
            have u5 := K14.out.frozen 1
            simp at u4
            have hn5 := N5.out ad5 rfl
            have ubk : ∀ {p : Addr} {x : ByteArray}, p.block = ad5.block → w5.cell? p = some (.string x) → w14.cell? p = some (.string x) := fun {p x} hpb hc => by
              have hlt5 := World.block_lt_of_cell? w5 _ hc
              by_cases e : (Value.slice Bv k cv).ownBlock = some p.block
              · exfalso
                have := (OW.out.lt _ e).2
                omega
              · exact (World.cell?_of_block (w := (w5.alloc (.cells #[.int .i64 xa, .int .i64 xb] 80)).drew) (hgrow14.block _ (by simp; omega) (fun e2 => e e2.symm))).trans (la.cell hc)
            have t5' := ubk rfl t5
            have t6' := ubk (p := ⟨ad5.block, ad5.off + 1, none⟩) rfl t6
            clear hown14 hgrow14 ubk hn5
            refine hK.out _ _ ⟨u4, t5', t6'⟩ (fun _ => ?_)
            clear hK K
            repeat (first | simp only [Act.put] | simp only [List.setIfInBounds_toArray] | simp only [List.set_cons_succ] | simp only [List.set_cons_zero])
            refine wpAnyH_takeL (i := 13) (v := ?_) rfl (by kernel_rfl) (by kernel_rfl) (by kernel_rfl) (fun _ _ _ h => h) (Or.inl ⟨by rfl, ?_⟩) (by assumption) ?_
            rotate_left
            · (intro w' hSw; (try dsimp only at hSw); go_simp; all_goals with_reducible rfl)
            repeat (first | simp only [Act.put] | simp only [List.setIfInBounds_toArray] | simp only [List.set_cons_succ] | simp only [List.set_cons_zero])
            refine wpAnyH_takeL (i := 14) (v := ?_) rfl (by kernel_rfl) (by kernel_rfl) (by kernel_rfl) (fun _ _ _ h => h) (Or.inl ⟨by rfl, ?_⟩) (by assumption) ?_
            rotate_left
            · (intro w' hSw; (try dsimp only at hSw); go_simp; all_goals with_reducible rfl)
            repeat (first | simp only [Act.put] | simp only [List.setIfInBounds_toArray] | simp only [List.set_cons_succ] | simp only [List.set_cons_zero])
            refine wpAnyH_done (by kernel_rfl) ?_ _
            clear hHeld t4 t5 t6 t5' t6'
            show Oper.wp _ _ _ _ _ _
            go_simp
            have K15 := Lib.hid (K14.out.set_ 1 (.slice (some ⟨g14, 0, none⟩) (k + 1) c14))
            have O15 := Lib.hid (own_far O14.out (p := ⟨bo, 1, none⟩) (fun e => by have := (O14.out.lt _ e).1; have h9 : w4.heap.size ≤ bo := this; omega) (.slice (some ⟨g14, 0, none⟩) (k + 1) c14))
            have C15 := Lib.hid (C14.out.trans (Chg.set (lo := bo) (hi := bo + 1) (Nat.le_refl _) (Nat.lt_succ_self _) 1 (.slice (some ⟨g14, 0, none⟩) (k + 1) c14)))
            go_wp2
            go_roundw
            case rel =>
              refine ⟨k + 1, xs ++ [(xa, xb)], _, by omega, by go_num, HTX.out, by rw [List.length_append, hxl]; rfl, fun e => absurd e hqn, ?_, by simpa using K15.out, C15.out⟩
              rw [pairs_snoc]
              exact O15.out
            case measure => simp [intOf]; omega
          · have hne : ((s5 : Int) != 2) = true := by rw [bne_iff_ne]; omega
            obtain rfl : r = none := HNO.out (by
              rw [HCAB.out, if_neg hqn, HTN.out (HPN.out e5)])
            have a0 := (K0.out _ (LWZ.out.trans L5.out)).cell 0
            have z0 := (K0.out _ (LWZ.out.trans L5.out)).frozen 0
            have a1 := (K0.out _ (LWZ.out.trans L5.out)).cell 1
            have z1 := (K0.out _ (LWZ.out.trans L5.out)).frozen 1
            have a2 := (K0.out _ (LWZ.out.trans L5.out)).cell 2
            have z2 := (K0.out _ (LWZ.out.trans L5.out)).frozen 2
            simp at a0 a1 a2
            go_wp2
            refine bodyPost_ret (v := .tuple #[.agg #[.int .i64 0, .slice none 0 0, .int .i64 0], .bool false]) (by simp [results, Tryd.results13, go_sem, a0, a1, a2]) rfl ?_
            refine ReadQ.no ?_
            have lz : Le w _ := L0.out.trans (LWZ.out.trans L5.out)
            repeat (first | exact lz | refine Le.setCell ?_ (Nat.le_of_eq HB.out) _)
        · have HXS := Lib.hid (show candS l = some (ya, xs, mv) from by
            rw [HCAB.out]
            by_cases hqn : q = []
            · rw [if_pos hqn]
              have h0 := HQ0.out hqn
              have : xs = [] := List.length_eq_zero_iff.1 (by omega)
              rw [this]
            · have : k = m := by
                by_cases h : k < m
                · exact absurd ⟨h, hqn⟩ hlt
                · omega
              have h2 := HPO.out
              rw [List.take_of_length_le (by rw [HML.out]; omega)] at h2
              rw [if_neg hqn, h2])
          have hse : S.toList.isEmpty = false := by rw [← HS.out]; exact toList_ne (fun e => by have := HLE.out e; omega)
          have a4 := KB.out.cell 0
          have a5 := KB.out.cell 1
          have a6 := KB.out.cell 2
          simp at a4 a5 a6
          have HSP := Lib.hid (specItemText_any ya Bv xs.length cv mv xs wr (by rw [hxl]; exact HRP.out))
          rw [hxl] at HSP
          rcases (show (k < m ∧ Q.toList.isEmpty = true) ∨ ¬ k < m from by
            by_cases h : k < m
            · left
              refine ⟨h, ?_⟩
              rw [← HQ.out]
              exact toList_nil (Classical.byContradiction fun hqn => hlt ⟨h, hqn⟩)
            · right; exact h) with ⟨hkm, hqe⟩ | hkm
          all_goals clear hlt
          all_goals go_wp2_with fail
          all_goals
            refine HSP.out.mono ?_; rintro e w6 ⟨rfl, l6⟩
            have L6 := Lib.hid l6
            have x0 := (KB.out.le l6).cell 0
            have x1 := (KB.out.le l6).cell 1
            have x2 := (KB.out.le l6).cell 2
            simp at x0 x1 x2
            clear l6 a4 a5 a6
            have a0 := (K0.out _ (LWZ.out.trans L6.out)).cell 0
            have z0 := (K0.out _ (LWZ.out.trans L6.out)).frozen 0
            have a1 := (K0.out _ (LWZ.out.trans L6.out)).cell 1
            have z1 := (K0.out _ (LWZ.out.trans L6.out)).frozen 1
            have a2 := (K0.out _ (LWZ.out.trans L6.out)).cell 2
            have z2 := (K0.out _ (LWZ.out.trans L6.out)).frozen 2
            simp at a0 a1 a2
            by_cases hit : itemT (ya, xs, mv) = l
            · rw [hit, HS.out]
              obtain rfl : r = some (ya, xs, mv) := by
                rw [← HRD.out, if_neg (fun e => by have := HLE.out e; omega), HXS.out]; exact if_pos hit
              clear hit
              have O6 := Lib.hid (own_Le OW.out L6.out)
              have hb4 : b < w4.heap.size := Nat.lt_of_lt_of_le hbz LZ4.out.size
              go_wp2
              refine bodyPost_ret (v := .tuple #[.agg #[.int .i64 ya, .slice Bv k cv, .int .i64 mv], .bool true]) (by simp [results, Tryd.results13, go_sem, a0, a1, a2]) rfl ?_
              have ne : (Value.slice Bv k cv).ownBlock ≠ some b := fun e => by have := (O6.out.lt _ e).1; omega
              refine ⟨_, _, _, xs, rfl, rfl, ?_, ?_⟩
              · rw [hxl]
                exact own_mono (own_far (own_far (own_far O6.out (p := ⟨b, 0, none⟩) ne _) (p := ⟨b, 1, none⟩) ne _) (p := ⟨b, 2, none⟩) ne _) (L0.out.trans LZ4.out).size
              · have lz := L0.out.trans (LWZ.out.trans L6.out)
                repeat (first | exact lz | refine Le.setCell ?_ (Nat.le_of_eq HB.out) _)
            · have hne := HNE.out _ hit
              obtain rfl : r = none := by
                rw [← HRD.out, if_neg (fun e => by have := HLE.out e; omega), HXS.out]; exact if_neg hit
              obtain ⟨T, hT⟩ : ∃ T : ByteArray, ⟨(itemT (ya, xs, mv)).toArray⟩ = T := ⟨_, rfl⟩
              rw [hT] at hne ⊢
              clear hT hit
              go_wp2
              refine bodyPost_ret (v := .tuple #[.agg #[.int .i64 0, .slice none 0 0, .int .i64 0], .bool false]) (by simp [results, Tryd.results13, go_sem, a0, a1, a2]) rfl ?_
              refine ReadQ.no ?_
              have lz : Le w _ := L0.out.trans (LWZ.out.trans L6.out)
              repeat (first | exact lz | refine Le.setCell ?_ (Nat.le_of_eq HB.out) _)
    · have hne : ((p2 : Int) != 2) = true := by rw [bne_iff_ne]; omega
      obtain rfl : r = none := HNO.out (HC2.out e3)
      have a0 := (K0.out _ L2.out).cell 0
      have z0 := (K0.out _ L2.out).frozen 0
      have a1 := (K0.out _ L2.out).cell 1
      have z1 := (K0.out _ L2.out).frozen 1
      have a2 := (K0.out _ L2.out).cell 2
      have z2 := (K0.out _ L2.out).frozen 2
      simp at a0 a1 a2
      go_wp2
      refine bodyPost_ret (v := .tuple #[.agg #[.int .i64 0, .slice none 0 0, .int .i64 0], .bool false]) (by simp [results, Tryd.results13, go_sem, a0, a1, a2]) rfl ?_
      refine ReadQ.no ?_
      have lz : Le w _ := L0.out.trans L2.out
      repeat (first | exact lz | refine Le.setCell ?_ (Nat.le_of_eq HB.out) _)
  · have hne : ((p1 : Int) != 2) = true := by rw [bne_iff_ne]; omega
    obtain rfl : r = none := HNO.out (HCN.out e2)
    have a0 := (K0.out _ L1.out).cell 0
    have z0 := (K0.out _ L1.out).frozen 0
    have a1 := (K0.out _ L1.out).cell 1
    have z1 := (K0.out _ L1.out).frozen 1
    have a2 := (K0.out _ L1.out).cell 2
    have z2 := (K0.out _ L1.out).frozen 2
    simp at a0 a1 a2
    go_wp2
    refine bodyPost_ret (v := .tuple #[.agg #[.int .i64 0, .slice none 0 0, .int .i64 0], .bool false]) (by simp [results, Tryd.results13, go_sem, a0, a1, a2]) rfl ?_
    refine ReadQ.no ?_
    have lz : Le w _ := L0.out.trans L1.out
    repeat (first | exact lz | refine Le.setCell ?_ (Nat.le_of_eq HB.out) _)
end Go.Proofs.YtoahjfofnaafaaaDoor
