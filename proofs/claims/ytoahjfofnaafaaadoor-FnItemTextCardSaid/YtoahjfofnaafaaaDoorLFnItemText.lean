/- Walk: FnItemText. -/
import Derived.Test.YtoahjfofnaafaaaDoorWSIt
import Derived.Test.YtoahjfofnaafaaaDoorWDrawI
import Derived.Test.YtoahjfofnaafaaaDoorWAlive
namespace Go.Proofs.YtoahjfofnaafaaaDoor
open Go.RowKit

theorem textT_len {x : It} (h : itemL x 5 = true) : 1 ≤ (textT x).length ∧ (textT x).length ≤ 30 := by
  obtain ⟨⟨y0, y1⟩, n3, _, ⟨m0, m1⟩, hp⟩ := item_facts (index := 5) h
  have h1 := numT_len (n := x.1) (by omega)
  have h2 := numT_len (n := x.2.2) (by omega)
  have h3 := partsT_len (ps := x.2.1) (n := x.2.1.length) (fun j hj => by have := hp j hj; omega) _ (Nat.le_refl _)
  unfold textT
  simp only [List.length_append, List.length_cons, List.length_nil]
  omega
theorem toList_full {l : Bs} (h : l ≠ []) : (⟨l.toArray⟩ : ByteArray).toList.isEmpty = false := by
  rw [ByteArray.toList_eq]
  cases l with
  | nil => exact absurd rfl h
  | cons _ _ => rfl
set_option maxRecDepth 20000 in
set_option maxHeartbeats 1000000 in
theorem drawItemText_any (A : Option Addr) (n c : Nat) (w : World) (h : RB w A n) (hc : n ≤ c) :
    Calls Tryd.prog 36 #[.slice A n c] w fun e w' => ∃ (y mk : Int) (B : Option Addr) (d : Nat) (ps : List (Int × Int)), e = .returned (.agg #[.int .i64 y, .slice B ps.length d, .int .i64 mk]) ∧ ps.length ≤ 4 ∧ RP w' B ps.length ps ∧ Le w w' := by
  have l0 := (Le.refl w).alloc (.cells #[.int .i64 0, .slice none 0 0, .int .i64 0] 26)
  have k0 := Blk.new w 26 #[.int .i64 0, .slice none 0 0, .int .i64 0]
  obtain ⟨wz, hwz⟩ : ∃ wz, w.alloc (.cells #[.int .i64 0, .slice none 0 0, .int .i64 0] 26) = wz := ⟨_, rfl⟩
  rw [hwz] at l0 k0
  obtain ⟨b, hbb⟩ : ∃ b, w.heap.size = b := ⟨_, rfl⟩
  rw [hbb] at k0
  have HO := Lib.hid (open_any A n c wz (h.le l0) hc)
  have K0 := Lib.hid (fun w' (l : Le wz w') => k0.le l)
  have L0 := Lib.hid l0
  have HB := Lib.hid hbb
  clear h l0 k0
  go_enter Tryd.func36, Tryd.ntmps36
  go_wp2_with fail
  refine HO.out.mono ?_; rintro e w1 ⟨rfl, r1⟩
  have HI := Lib.hid (l20Item_any _ _ _ _ _ _ _ 5 6 r1 (by omega) (by omega) (by omega))
  have hz1 := r1.lt
  have hz2 := (K0.out _ (Le.refl _)).lt
  clear r1
  go_wp2_with fail
  refine HI.out.mono ?_; rintro e w2 ⟨y, mk, v, ps, p', rfl, o2, h4, _, _, _, r2, _, _⟩
  have LZ := Lib.hid r2.le
  have a0 := (K0.out _ LZ.out).cell 0
  have a1 := (K0.out _ LZ.out).cell 1
  have a2 := (K0.out _ LZ.out).cell 2
  have z0 := (K0.out _ LZ.out).frozen 0
  have z1 := (K0.out _ LZ.out).frozen 1
  have z2 := (K0.out _ LZ.out).frozen 2
  simp at a0 a1 a2
  obtain ⟨B, d, rfl, _⟩ := own_RP o2 (by omega)
  have O2 := Lib.hid o2
  clear r2 o2
  go_wp2
  have ne : (Value.slice B ps.length d).ownBlock ≠ some b := fun e => by have := (O2.out.lt _ e).1; omega
  refine bodyPost_ret (v := .agg #[.int .i64 y, .slice B ps.length d, .int .i64 mk]) (by simp [results, Tryd.results36, go_sem, a0, a1, a2]) rfl ?_
  refine ⟨y, mk, B, d, ps, rfl, h4, own_RP2 (own_far (own_far (own_far O2.out (p := ⟨b, 0, none⟩) ne _) (p := ⟨b, 1, none⟩) ne _) (p := ⟨b, 2, none⟩) ne _) (by omega), ?_⟩
  have lz := L0.out.trans LZ.out
  repeat (first | exact lz | refine Le.setCell ?_ (Nat.le_of_eq HB.out) _)

set_option maxRecDepth 20000 in
set_option maxHeartbeats 4000000 in
theorem law_FnItemText (w : World) (A : Option Addr) (n c : Nat) (h : RB w A n) (hc : n ≤ c) (hcm : CM w) :
    Calls Tryd.prog 9 #[.slice A n c] w fun e w' => e = .returned (.bool true) ∧ Le w w' := by
  have hm := h.max
  by_cases hn : 1048576 < n
  · clear hcm
    go_enter Tryd.func9, Tryd.ntmps9
    go_wp2
    go_ret
    exact ⟨rfl, Le.refl _⟩
  · have HD := Lib.hid (drawItemText_any A n c w h hc)
    have HCM := Lib.hid (fun w' (l : Le w w') => hcm.le l)
    clear h hcm
    go_enter Tryd.func9, Tryd.ntmps9
    go_wp2_with fail
    refine HD.out.mono ?_; rintro e w1 ⟨y, mk, B, d, ps, rfl, hm4, r1, l1⟩
    have l2 := (Le.refl w1).alloc (.cells #[.int .i64 y, .slice B ps.length d, .int .i64 mk] 26)
    have k2 := Blk.new w1 26 #[.int .i64 y, .slice B ps.length d, .int .i64 mk]
    have r2 := r1.le l2
    obtain ⟨w2, hw2⟩ : ∃ w2, w1.alloc (.cells #[.int .i64 y, .slice B ps.length d, .int .i64 mk] 26) = w2 := ⟨_, rfl⟩
    rw [hw2] at l2 k2 r2
    obtain ⟨b, hb⟩ : ∃ b, w1.heap.size = b := ⟨_, rfl⟩
    rw [hb] at k2
    have K2 := Lib.hid (fun w' (l : Le w2 w') => k2.le l)
    have R2 := Lib.hid (fun w' (l : Le w2 w') => r2.le l)
    have L2 := Lib.hid (l1.trans l2)
    have c0 := k2.cell 0
    have c1 := k2.cell 1
    have c2 := k2.cell 2
    simp at c0 c1 c2
    clear l1 l2 k2 r2 r1
    go_wp2_with fail
    refine (implItemText_any _ _ _ _ _ ps _ (R2.out _ (Le.refl _))).mono ?_; rintro e w3 ⟨rfl, l3⟩
    obtain ⟨T, hT⟩ : ∃ T : ByteArray, ⟨(itemT (y, ps, mk)).toArray⟩ = T := ⟨_, rfl⟩
    rw [hT]
    have HT := Lib.hid hT
    have M3 := Lib.hid l3
    clear hT l3 c0 c1 c2 hw2 hb
    have c0 := (K2.out _ M3.out).cell 0
    have c1 := (K2.out _ M3.out).cell 1
    have c2 := (K2.out _ M3.out).cell 2
    simp at c0 c1 c2
    go_wp2_with fail
    refine (specItemText_any _ _ _ _ _ ps _ (R2.out _ M3.out)).mono ?_; rintro e w4 ⟨rfl, l4⟩
    rw [HT.out]
    have M4 := Lib.hid (M3.out.trans l4)
    clear l4 c0 c1 c2
    by_cases hv : itemL (y, ps, mk) 5 = true
    · have HTX := Lib.hid (show T = ⟨(textT (y, ps, mk)).toArray⟩ from by rw [← HT.out, itemT_valid hv])
      have hne : T.toList.isEmpty = false := by rw [HTX.out]; exact toList_full (textT_ne _)
      have hri := implReadItem_any (textT (y, ps, mk)) (by have := textT_len hv; omega) w4 (HCM.out _ (L2.out.trans M4.out))
      rw [readI_T hv, ← HTX.out] at hri
      have HRI := Lib.hid hri
      clear hri hv
      go_wp2_with fail
      refine HRI.out.mono ?_; rintro e w5 ⟨y', v', mk', ps', rfl, he, o5, l5⟩
      have he' : (y, ps, mk) = (y', ps', mk') := he
      injection he' with e1 e2
      injection e2 with e2 e3
      subst e1; subst e2; subst e3
      obtain ⟨B5, d5, rfl, r5⟩ := own_RP o5 (by omega)
      have l6 := l5.alloc (.cells #[.int .i64 y, .slice B5 ps.length d5, .int .i64 mk] 26)
      have k6 := Blk.new w5 26 #[.int .i64 y, .slice B5 ps.length d5, .int .i64 mk]
      have r6 := r5.le ((Le.refl w5).alloc (.cells #[.int .i64 y, .slice B5 ps.length d5, .int .i64 mk] 26))
      obtain ⟨w6, hw6⟩ : ∃ w6, w5.alloc (.cells #[.int .i64 y, .slice B5 ps.length d5, .int .i64 mk] 26) = w6 := ⟨_, rfl⟩
      rw [hw6] at l6 k6 r6
      obtain ⟨b6, hb6⟩ : ∃ b6, w5.heap.size = b6 := ⟨_, rfl⟩
      rw [hb6] at k6
      have M6 := Lib.hid (M4.out.trans l6)
      have R6 := Lib.hid r6
      have c0 := (K2.out _ M6.out).cell 0
      have c1 := (K2.out _ M6.out).cell 1
      have c2 := (K2.out _ M6.out).cell 2
      have d0 := k6.cell 0
      have d1 := k6.cell 1
      have d2 := k6.cell 2
      simp at c0 c1 c2 d0 d1 d2
      clear he o5 l5 r5 l6 k6 r6
      go_wp2_with fail
      refine (sameItem_self _ _ _ _ _ _ _ ps _ R6.out (R2.out _ M6.out)).mono ?_; rintro e w7 ⟨rfl, l7⟩
      go_wp2
      go_ret
      exact ⟨rfl, L2.out.trans (M6.out.trans l7)⟩
    · have hne : T.toList.isEmpty = true := by
        rw [← HT.out, ByteArray.toList_eq]; unfold itemT; rw [if_neg hv]; rfl
      clear hv
      go_wp2_with fail
      refine (alive_any _).mono ?_; rintro e w5 ⟨rfl, l5⟩
      go_wp2
      go_ret
      exact ⟨rfl, L2.out.trans (M4.out.trans l5)⟩
end Go.Proofs.YtoahjfofnaafaaaDoor
