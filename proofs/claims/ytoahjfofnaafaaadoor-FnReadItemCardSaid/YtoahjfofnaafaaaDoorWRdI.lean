/- Walks: ReadItem of the program and of the reference; equality of items. -/
import Derived.Test.YtoahjfofnaafaaaDoorWRdP
import Derived.Test.YtoahjfofnaafaaaDoorWItS
import Derived.Test.YtoahjfofnaafaaaDoorPReg
import Derived.Deep.RegionHeld3
namespace Go.Proofs.YtoahjfofnaafaaaDoor
open Go.RowKit

/-- an item that was read, its parts in a row of the call's own -/
def ReadQ (w : World) (o : Option It) (e : Ending) (w' : World) : Prop :=
  ∃ (y : Int) (v : Value) (mk : Int) (ps : List (Int × Int)), e = .returned (.tuple #[.agg #[.int .i64 y, v, .int .i64 mk], .bool o.isSome]) ∧ o.getD (0, [], 0) = (y, ps, mk) ∧ w'.ownsRow w.heap.size 80 2 v ps.length (pairs ps) ∧ Le w w'
theorem ReadQ.no {w w' : World} (hl : Le w w') : ReadQ w none (.returned (.tuple #[.agg #[.int .i64 0, .slice none 0 0, .int .i64 0], .bool false])) w' :=
  ⟨0, _, 0, [], rfl, rfl, own_nil _ _ _ _, hl⟩
theorem ba_ne {s t : Bs} (h : s ≠ t) : ((⟨s.toArray⟩ : ByteArray).toList == (⟨t.toArray⟩ : ByteArray).toList) = false := by
  rw [ByteArray.toList_eq, ByteArray.toList_eq, beq_eq_false_iff_ne]
  intro e
  apply h
  simpa using e
theorem candI_eq (l : Bs) {q1 q2 r1 r2 : Bs} {f g : Bool} (h1 : Lib.cut l [61] = (q1, q2, f)) (h2 : Lib.cut q2 [33] = (r1, r2, g)) :
    candI l = if f && g then (match readPL r1 with | none => none | some ps => if readB q1 1 && readB r2 2 then some ((numV q1 : Int), ps, (numV r2 : Int)) else none) else none := by
  unfold candI
  simp only [h1, h2]
  rfl
theorem own_max {w : World} {base : Nat} {e : TypeId} {size : Nat} {v : Value} {n : Nat} {xs : List Value} (h : w.ownsRow base e size v n xs) : n ≤ 9223372036854775807 := by
  rcases h.2 with ⟨_, h0⟩ | ⟨g, cap, cur, _, _, _, h1, h2, _⟩
  · omega
  · unfold maxLen at h2; omega
set_option maxRecDepth 20000 in
set_option maxHeartbeats 4000000 in
theorem implReadItem_any (l : Bs) (hl : l.length ≤ 1048577) (w : World) (hcm : CM w) :
    Calls Tryd.prog 12 #[.string ⟨l.toArray⟩] w (ReadQ w (readI l)) := by
  have l0 := (Le.refl w).alloc (.cells #[.int .i64 0, .slice none 0 0, .int .i64 0] 26)
  have k0 := Blk.new w 26 #[.int .i64 0, .slice none 0 0, .int .i64 0]
  obtain ⟨wz, hwz⟩ : ∃ wz, w.alloc (.cells #[.int .i64 0, .slice none 0 0, .int .i64 0] 26) = wz := ⟨_, rfl⟩
  rw [hwz] at l0 k0
  obtain ⟨b, hbb⟩ : ∃ b, w.heap.size = b := ⟨_, rfl⟩
  rw [hbb] at k0
  have K0 := Lib.hid (fun w' (l : Le wz w') => k0.le l)
  have L0 := Lib.hid l0
  have HB := Lib.hid hbb
  obtain ⟨q1, q2, f, h1⟩ : ∃ q1 q2 f, Lib.cut l [61] = (q1, q2, f) := ⟨_, _, _, rfl⟩
  obtain ⟨r1, r2, g, h2⟩ : ∃ r1 r2 g, Lib.cut q2 [33] = (r1, r2, g) := ⟨_, _, _, rfl⟩
  have hl1 := (cut_len l 61)
  have hl2 := (cut_len q2 33)
  rw [h1] at hl1
  rw [h2] at hl2
  simp only at hl1 hl2
  have HC1 := Lib.hid (fun w' (q : Le w w') => cut_any l 61 (by omega) w' (hcm.le q))
  have HC2 := Lib.hid (fun w' (q : Le w w') => cut_any q2 33 (by omega) w' (hcm.le q))
  rw [h1] at HC1
  rw [h2] at HC2
  simp only at HC1 HC2
  have HRP := Lib.hid (fun w' (q : Le w w') => readParts_any r1 (by omega) w' (hcm.le q))
  have HR1 := Lib.hid (fun w' => readNumber_any q1 1 (by omega) (by omega) w')
  have HR2 := Lib.hid (fun w' => readNumber_any r2 2 (by omega) (by omega) w')
  obtain ⟨n1, b1, hn1, hn1', hn1v⟩ : ∃ n1 b1, readN q1 1 = (n1, b1) ∧ readB q1 1 = b1 ∧ (b1 = true → numV q1 = n1) := ⟨(readN q1 1).1, (readN q1 1).2, rfl, by unfold readN; cases readB q1 1 <;> rfl, by unfold readN; cases readB q1 1 <;> simp⟩
  obtain ⟨n2, b2, hn2, hn2', hn2v⟩ : ∃ n2 b2, readN r2 2 = (n2, b2) ∧ readB r2 2 = b2 ∧ (b2 = true → numV r2 = n2) := ⟨(readN r2 2).1, (readN r2 2).2, rfl, by unfold readN; cases readB r2 2 <;> rfl, by unfold readN; cases readB r2 2 <;> simp⟩
  have hci := candI_eq l h1 h2
  rw [hn1', hn2'] at hci
  obtain ⟨o, ho⟩ : ∃ o, readPL r1 = o := ⟨_, rfl⟩
  rw [ho] at hci HRP
  rw [hn1] at HR1
  rw [hn2] at HR2
  have HCI := Lib.hid hci
  have HV1 := Lib.hid hn1v
  have HV2 := Lib.hid hn2v
  obtain ⟨r, hr⟩ : ∃ r, readI l = r := ⟨_, rfl⟩
  rw [hr]
  have HRD := Lib.hid (show (match candI l with | none => none | some x => if itemT x = l then some x else none) = r from hr)
  have HNE := Lib.hid (fun (t : Bs) (h : t ≠ l) => ba_ne h)
  obtain ⟨S, hS⟩ : ∃ S : ByteArray, ⟨l.toArray⟩ = S := ⟨_, rfl⟩
  obtain ⟨Q1, hQ1⟩ : ∃ Q : ByteArray, ⟨q1.toArray⟩ = Q := ⟨_, rfl⟩
  obtain ⟨Q2, hQ2⟩ : ∃ Q : ByteArray, ⟨q2.toArray⟩ = Q := ⟨_, rfl⟩
  obtain ⟨R1, hR1⟩ : ∃ Q : ByteArray, ⟨r1.toArray⟩ = Q := ⟨_, rfl⟩
  obtain ⟨R2, hR2⟩ : ∃ Q : ByteArray, ⟨r2.toArray⟩ = Q := ⟨_, rfl⟩
  rw [hS] at HC1 HNE ⊢
  rw [hQ1] at HC1 HR1
  rw [hQ2] at HC1 HC2
  rw [hR1] at HC2 HRP
  rw [hR2] at HC2 HR2
  have HS := Lib.hid hS
  clear h1 h2 hl1 hl2 hn1 hn2 hn1' hn2' hn1v hn2v hci ho hr hS hQ1 hQ2 hR1 hR2 hcm l0 k0
  go_enter Tryd.func12, Tryd.ntmps12
  go_wp2_with fail
  refine (HC1.out _ L0.out).mono ?_; rintro e w1 ⟨rfl, l1⟩
  have L1 := Lib.hid l1
  clear l1
  go_wp2_with fail
  refine (HC2.out _ (L0.out.trans L1.out)).mono ?_; rintro e w2 ⟨rfl, l2⟩
  have L2 := Lib.hid (L1.out.trans l2)
  clear l2
  by_cases hfg : f = true ∧ g = true
  · obtain ⟨rfl, rfl⟩ := hfg
    go_wp2_with fail
    refine (HR1.out _).mono ?_; rintro e w3 ⟨rfl, rfl⟩
    go_wp2_with fail
    refine (HRP.out _ (L0.out.trans L2.out)).mono ?_; rintro e w4 ⟨v, rfl, ho4, l4⟩
    have O4 := Lib.hid ho4
    have L4 := Lib.hid (L2.out.trans l4)
    have HL4 := Lib.hid l4
    clear ho4 l4
    go_wp2_with fail
    refine (HR2.out _).mono ?_; rintro e w5 ⟨rfl, rfl⟩
    by_cases hall : (b1 = true ∧ o.isSome = true) ∧ b2 = true
    · obtain ⟨⟨rfl, ho⟩, rfl⟩ := hall
      obtain ⟨ps, rfl⟩ := Option.isSome_iff_exists.1 ho
      have HCX := Lib.hid (show candI l = some ((n1 : Int), ps, (n2 : Int)) from by rw [HCI.out]; simp [HV1.out rfl, HV2.out rfl])
      have hol : (some ps).isSome = true := rfl
      obtain ⟨A, c, rfl, hrp⟩ := own_RP (n := ps.length) (ps := ps) O4.out (own_max O4.out)
      have hrb := hrp.le ((Le.refl w4).alloc (.cells #[.int .i64 (n1 : Int), .slice A ps.length c, .int .i64 (n2 : Int)] 26))
      have kx := Blk.new w4 26 #[.int .i64 (n1 : Int), .slice A ps.length c, .int .i64 (n2 : Int)]
      have lx := (Le.refl w4).alloc (.cells #[.int .i64 (n1 : Int), .slice A ps.length c, .int .i64 (n2 : Int)] 26)
      have HRB := Lib.hid hrb
      have KX := Lib.hid kx
      have LX := Lib.hid lx
      clear hrp hrb kx lx ho
      go_wp2_with fail
      refine (implItemText_any _ _ _ _ _ ps _ HRB.out).mono ?_; rintro e w6 ⟨rfl, l6⟩
      have L6 := Lib.hid (L4.out.trans (LX.out.trans l6))
      have a0 := (K0.out _ L6.out).cell 0
      have a1 := (K0.out _ L6.out).cell 1
      have a2 := (K0.out _ L6.out).cell 2
      have z0 := (K0.out _ L6.out).frozen 0
      have z1 := (K0.out _ L6.out).frozen 1
      have z2 := (K0.out _ L6.out).frozen 2
      have x0 := (KX.out.le l6).cell 0
      have x1 := (KX.out.le l6).cell 1
      have x2 := (KX.out.le l6).cell 2
      simp at a0 a1 a2 x0 x1 x2
      by_cases hit : itemT ((n1 : Int), ps, (n2 : Int)) = l
      · rw [hit, HS.out]
        obtain rfl : r = some ((n1 : Int), ps, (n2 : Int)) := by rw [← HRD.out, HCX.out]; exact if_pos hit
        clear hit
        have O6 := Lib.hid (own_Le (own_Le O4.out LX.out) l6)
        have hb2 : b < w2.heap.size := (K0.out _ L2.out).lt
        clear l6
        go_wp2
        refine bodyPost_ret (v := .tuple #[.agg #[.int .i64 (n1 : Int), .slice A ps.length c, .int .i64 (n2 : Int)], .bool true]) (by simp [results, Tryd.results12, go_sem, a0, a1, a2]) rfl ?_
        have ne : (Value.slice A ps.length c).ownBlock ≠ some b := fun e => by have := (O6.out.lt _ e).1; omega
        refine ⟨_, _, _, ps, rfl, rfl, own_mono (own_far (own_far (own_far O6.out (p := ⟨b, 0, none⟩) ne _) (p := ⟨b, 1, none⟩) ne _) (p := ⟨b, 2, none⟩) ne _) (L0.out.trans L2.out).size, ?_⟩
        have lz := L0.out.trans L6.out
        repeat (first | exact lz | refine Le.setCell ?_ (Nat.le_of_eq HB.out) _)
      · have hne := HNE.out _ hit
        obtain rfl : r = none := by rw [← HRD.out, HCX.out]; exact if_neg hit
        obtain ⟨T, hT⟩ : ∃ T : ByteArray, ⟨(itemT ((n1 : Int), ps, (n2 : Int))).toArray⟩ = T := ⟨_, rfl⟩
        rw [hT] at hne ⊢
        clear hT hit l6
        go_wp2
        refine bodyPost_ret (v := .tuple #[.agg #[.int .i64 0, .slice none 0 0, .int .i64 0], .bool false]) (by simp [results, Tryd.results12, go_sem, a0, a1, a2]) rfl ?_
        refine ReadQ.no ?_
        have lz := L0.out.trans L6.out
        repeat (first | exact lz | refine Le.setCell ?_ (Nat.le_of_eq HB.out) _)
    · have hno : candI l = none := by
        rw [HCI.out]
        cases b1 <;> cases b2 <;> cases o <;> first | rfl | exact absurd ⟨⟨rfl, rfl⟩, rfl⟩ hall
      obtain rfl : r = none := by rw [← HRD.out, hno]
      have a0 := (K0.out _ L4.out).cell 0
      have a1 := (K0.out _ L4.out).cell 1
      have a2 := (K0.out _ L4.out).cell 2
      have z0 := (K0.out _ L4.out).frozen 0
      have z1 := (K0.out _ L4.out).frozen 1
      have z2 := (K0.out _ L4.out).frozen 2
      simp at a0 a1 a2
      cases b1
      · go_wp2
        refine bodyPost_ret (v := .tuple #[.agg #[.int .i64 0, .slice none 0 0, .int .i64 0], .bool false]) (by simp [results, Tryd.results12, go_sem, a0, a1, a2]) rfl ?_
        refine ReadQ.no ?_
        have lz := L0.out.trans L4.out
        repeat (first | exact lz | refine Le.setCell ?_ (Nat.le_of_eq HB.out) _)
      · cases o with
        | none =>
          go_wp2
          refine bodyPost_ret (v := .tuple #[.agg #[.int .i64 0, .slice none 0 0, .int .i64 0], .bool false]) (by simp [results, Tryd.results12, go_sem, a0, a1, a2]) rfl ?_
          refine ReadQ.no ?_
          have lz := L0.out.trans L4.out
          repeat (first | exact lz | refine Le.setCell ?_ (Nat.le_of_eq HB.out) _)
        | some ps =>
          cases b2
          · go_wp2
            refine bodyPost_ret (v := .tuple #[.agg #[.int .i64 0, .slice none 0 0, .int .i64 0], .bool false]) (by simp [results, Tryd.results12, go_sem, a0, a1, a2]) rfl ?_
            refine ReadQ.no ?_
            have lz := L0.out.trans L4.out
            repeat (first | exact lz | refine Le.setCell ?_ (Nat.le_of_eq HB.out) _)
          · exact absurd ⟨⟨rfl, rfl⟩, rfl⟩ hall
  · obtain rfl : r = none := by
      rw [← HRD.out, HCI.out]
      cases f <;> cases g <;> first | rfl | exact absurd ⟨rfl, rfl⟩ hfg
    have a0 := (K0.out _ L2.out).cell 0
    have a1 := (K0.out _ L2.out).cell 1
    have a2 := (K0.out _ L2.out).cell 2
    have z0 := (K0.out _ L2.out).frozen 0
    have z1 := (K0.out _ L2.out).frozen 1
    have z2 := (K0.out _ L2.out).frozen 2
    simp at a0 a1 a2
    cases f
    · go_wp2
      refine bodyPost_ret (v := .tuple #[.agg #[.int .i64 0, .slice none 0 0, .int .i64 0], .bool false]) (by simp [results, Tryd.results12, go_sem, a0, a1, a2]) rfl ?_
      refine ReadQ.no ?_
      have lz := L0.out.trans L2.out
      repeat (first | exact lz | refine Le.setCell ?_ (Nat.le_of_eq HB.out) _)
    · cases g
      · go_wp2
        refine bodyPost_ret (v := .tuple #[.agg #[.int .i64 0, .slice none 0 0, .int .i64 0], .bool false]) (by simp [results, Tryd.results12, go_sem, a0, a1, a2]) rfl ?_
        refine ReadQ.no ?_
        have lz := L0.out.trans L2.out
        repeat (first | exact lz | refine Le.setCell ?_ (Nat.le_of_eq HB.out) _)
      · exact absurd ⟨rfl, rfl⟩ hfg
end Go.Proofs.YtoahjfofnaafaaaDoor
