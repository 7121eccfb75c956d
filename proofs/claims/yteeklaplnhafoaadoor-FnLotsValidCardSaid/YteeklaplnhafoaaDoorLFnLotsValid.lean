/- Walk: FnLotsValid. -/
import Derived.Test.YteeklaplnhafoaaDoorWDrawW
import Derived.Test.YteeklaplnhafoaaDoorWAlive
import Derived.Test.YteeklaplnhafoaaDoorPLaw2
namespace Go.Proofs.YteeklaplnhafoaaDoor
open Go.RowKit

/-- an append under a guard that says yes -/
theorem wpList_append_own_g {P : Program} {w : World} {ops : Array Oper} {rest : List Oper} {o : Oper} {a : Act} {Q : Exit → Act → World → Prop} (hw : Region.wanted o (yielded ops a.tmps) = true) (d : Option Tmp) (hd : o.dst = d) (s x : Operand) (t : TypeId)
    (ho : o.op = .call { callee := .builtin .append, args := #[s, x], argTypes := #[t, t] })
    (base : Nat) (e : TypeId) (i : TypeInfo) (z : Value) (size bytes : Nat) (ht : P.underlying t = some (.slice e)) (hi : P.info? e = some i) (hz : i.zero = some z)
    (hsize : i.size = size) (hby : i.bytes = bytes) (hzs : z.cells.size = size) (hsz : 0 < size)
    (v : Value) (n : Nat) (xs : List Value) (hs : a.eval s = v) (hown : w.ownsRow base e size v n xs)
    (ad : Addr) (m c : Nat) (news : List Value) (hx : a.eval x = .slice (some ad) m c) (hl : news.length = m * size) (hnews : ∀ j u, news[j]? = some u → w.cell? (ad.add j) = some u) (h1 : ∀ u ∈ news, u.oneCell' = true)
    (h63 : n + m ≤ maxLen) (hbytes : (n + m) * bytes ≤ 140737488355328) (hbase : base ≤ w.heap.size)
    (h : ∀ v' w', w'.ownsRow base e size v' (n + m) (xs ++ news) → w.grownBy w' v.ownBlock → (v' = .slice none 0 0 ↔ v = .slice none 0 0 ∧ m = 0) → wpList P ops Q rest (a.put d v') w') : wpList P ops Q (o :: rest) a w :=
  BigFrame.wpList_want hw fun _ hK => wp_append_own w s x t ho base e i z size bytes ht hi hz hsize hby hzs hsz v n xs hs hown ad m c news hx hl hnews h1 h63 hbytes hbase fun v' w' h2 h3 h4 => hK _ _ (by subst hd; exact h v' w' h2 h3 h4)
/-- what a draw of pairs leaves for a law: some short list -/
def DP (t : TypeId) (m : Nat) (w : World) (e : Ending) (w' : World) : Prop :=
  ∃ (gv cap : Nat) (ps : List (Int × Int)), e = .returned (.slice (some ⟨gv, 0, none⟩) ps.length cap) ∧ w'.ownsRow w.heap.size t 2 (.slice (some ⟨gv, 0, none⟩) ps.length cap) ps.length (pairs ps) ∧ ps.length ≤ m ∧ Le w w'
set_option maxRecDepth 20000 in
set_option maxHeartbeats 1000000 in
theorem drawLots_any (A : Option Addr) (n c : Nat) (w : World) (h : RB w A n) (hc : n ≤ c) :
    Calls Tryd.prog 27 #[.slice A n c] w (DP 40 6 w) := by
  have ho := open_any A n c w h hc
  have HO := Lib.hid ho
  clear ho h
  go_enter Tryd.func27, Tryd.ntmps27
  go_wp2_with fail
  refine HO.out.mono ?_; rintro e w1 ⟨rfl, r1⟩
  have hl := l20Lots_any _ _ _ _ _ _ _ 2 r1 (by omega) (by omega) (by omega)
  rw [show ((2 : Nat) : Int) = 2 from rfl] at hl
  have HL := Lib.hid hl
  have R1 := Lib.hid r1
  clear hl r1
  go_wp2_with fail
  refine HL.out.mono ?_; rintro e w2 ⟨gv, cap, ps, q, rfl, o2, m2, r2, _, _⟩
  have O2 := Lib.hid (own_mono o2 R1.out.le.size)
  have R2 := Lib.hid r2
  clear o2 r2
  go_wp2
  go_ret
  exact ⟨gv, cap, ps, rfl, O2.out, m2, R2.out.le⟩

set_option maxRecDepth 20000 in
set_option maxHeartbeats 4000000 in
theorem law_FnLotsValid (w : World) (A : Option Addr) (n c : Nat) (h : RB w A n) (hc : n ≤ c) :
    Calls Tryd.prog 5 #[.slice A n c] w fun e w' => e = .returned (.bool true) ∧ Le w w' := by
  have hm := h.max
  by_cases hn : 1048576 < n
  · go_enter Tryd.func5, Tryd.ntmps5
    go_wp2
    go_ret
    exact ⟨rfl, Le.refl _⟩
  · have hd := drawLots_any A n c w h hc
    have HD := Lib.hid hd
    clear hd h
    obtain ⟨i0, hi0, hz0, hz1, hz2⟩ := info_parts infoLot
    go_enter Tryd.func5, Tryd.ntmps5
    go_wp2_with fail
    refine HD.out.mono ?_; rintro e w1 ⟨gv, cap, ps, rfl, o1, m1, l1⟩
    obtain ⟨k, hk⟩ : ∃ k, ps.length = k := ⟨_, rfl⟩
    rw [hk] at o1 m1
    rw [hk]
    have hcap : k ≤ cap := by
      rcases o1.2 with ⟨e, _⟩ | ⟨g', cap', cur, e, _, _, h2, _⟩
      · cases e
      · injection e with _ _ e3; omega
    have hr : RP w1 (some ⟨gv, 0, none⟩) k ps := own_RP2 o1 (by omega)
    have HO1 := Lib.hid o1
    have HR := Lib.hid hr
    have HK := Lib.hid hk
    have L1 := Lib.hid l1
    clear o1 hr hk l1
    go_wp2_with fail
    refine (implLotsValid_any _ _ _ _ _ HR.out).mono ?_; rintro e w2 ⟨rfl, l2⟩
    go_wp2_with fail
    refine (specLotsValid_any _ _ _ _ _ (HR.out.le l2)).mono ?_; rintro e w' ⟨rfl, rfl⟩
    obtain ⟨V, hV⟩ : ∃ V, lotsL ps = V := ⟨_, rfl⟩
    rw [hV]
    have hbb : (V != V) = false := by simp
    have L2 := Lib.hid l2
    have HV := Lib.hid hV
    clear l2 hV
    cases V
    · go_wp2_with (at_builtin; refine wpList_append_own_g (by rfl) (some 31) rfl (.tmp 29) (.tmp 30) 23 rfl w2.heap.size 40 i0 _ 2 16 Tryd.underlying23 hi0 hz0 hz1 hz2 rfl (by decide) (.slice (some ⟨w2.heap.size, 0, none⟩) 0 0) 0 [] rfl (own_empty _ _ _) ⟨gv, 0, none⟩ k cap (pairs ps) rfl (by rw [pairs_length, HK.out]) (fun j u hj => (own_Le HO1.out (L2.out.trans ((Le.refl w2).alloc _))).cells (g := gv) rfl j u hj) (pairs_one _) (by unfold maxLen; omega) (by omega) (by simp) ?_)
      intro va wa owa ga _
      have la : Le w2 wa := ((Le.refl w2).alloc _).grown ga (fun q hq => by simp [Value.ownBlock] at hq; omega)
      have HWA := Lib.hid owa
      have LA := Lib.hid la
      clear owa ga la
      go_wp2_with (at_builtin; refine wpList_append_own_g (by rfl) (some 34) rfl (.tmp 31) (.tmp 33) 23 rfl w2.heap.size 40 i0 _ 2 16 Tryd.underlying23 hi0 hz0 hz1 hz2 rfl (by decide) va (0 + k) ([] ++ pairs ps) rfl (HWA.out.alloc _) ⟨wa.heap.size, 0, none⟩ 1 1 [.int .i64 (-1), .int .i64 0] rfl rfl (cell_two' wa _ rfl _ _ _) (fun u hu => by simp at hu; rcases hu with rfl | rfl <;> rfl) (by unfold maxLen; omega) (by omega) (by have := LA.out.size; simp; omega) ?_)
      intro vb wb owb gb _
      have lb : Le w2 wb := (LA.out.alloc _).grown gb (fun q hq => (HWA.out.lt q hq).1)
      have owb : wb.ownsRow w2.heap.size 40 2 vb (k + 1) (pairs (ps ++ [(-1, 0)])) := by
        rw [pairs_snoc, Nat.zero_add, List.nil_append] at *
        exact owb
      obtain ⟨B, d, rfl, hrp⟩ := own_RP owb (by omega)
      have HRP := Lib.hid hrp
      have LB := Lib.hid lb
      clear owb gb lb hrp
      go_wp2_with fail
      refine (implLotsValid_any _ _ _ _ _ HRP.out).mono ?_; rintro e w5 ⟨rfl, l5⟩
      rw [lots_neg]
      go_wp2_with fail
      refine (implLotsValid_any _ _ _ _ _ (RP.nil w5)).mono ?_; rintro e w6 ⟨rfl, l6⟩
      rw [lots_nil]
      go_wp2_with fail
      refine (alive_any w6).mono ?_; rintro e w7 ⟨rfl, l7⟩
      go_wp2
      go_ret
      exact ⟨rfl, L1.out.trans (L2.out.trans (LB.out.trans (l5.trans (l6.trans l7))))⟩
    · by_cases hk0 : k = 0
      · have hk0' : ((k : Int) == 0) = true := by rw [hk0]; rfl
        have HK0 := Lib.hid hk0
        clear hk0
        go_wp2_with (at_builtin; refine wpList_append_own_g (by rfl) (some 31) rfl (.tmp 29) (.tmp 30) 23 rfl w2.heap.size 40 i0 _ 2 16 Tryd.underlying23 hi0 hz0 hz1 hz2 rfl (by decide) (.slice (some ⟨w2.heap.size, 0, none⟩) 0 0) 0 [] rfl (own_empty _ _ _) ⟨gv, 0, none⟩ k cap (pairs ps) rfl (by rw [pairs_length, HK.out]) (fun j u hj => (own_Le HO1.out (L2.out.trans ((Le.refl w2).alloc _))).cells (g := gv) rfl j u hj) (pairs_one _) (by unfold maxLen; omega) (by omega) (by simp) ?_)
        intro va wa owa ga _
        have la : Le w2 wa := ((Le.refl w2).alloc _).grown ga (fun q hq => by simp [Value.ownBlock] at hq; omega)
        have HWA := Lib.hid owa
        have LA := Lib.hid la
        clear owa ga la
        go_wp2_with (at_builtin; refine wpList_append_own_g (by rfl) (some 34) rfl (.tmp 31) (.tmp 33) 23 rfl w2.heap.size 40 i0 _ 2 16 Tryd.underlying23 hi0 hz0 hz1 hz2 rfl (by decide) va (0 + k) ([] ++ pairs ps) rfl (HWA.out.alloc _) ⟨wa.heap.size, 0, none⟩ 1 1 [.int .i64 (-1), .int .i64 0] rfl rfl (cell_two' wa _ rfl _ _ _) (fun u hu => by simp at hu; rcases hu with rfl | rfl <;> rfl) (by unfold maxLen; omega) (by omega) (by have := LA.out.size; simp; omega) ?_)
        intro vb wb owb gb _
        have lb : Le w2 wb := (LA.out.alloc _).grown gb (fun q hq => (HWA.out.lt q hq).1)
        have owb : wb.ownsRow w2.heap.size 40 2 vb (k + 1) (pairs (ps ++ [(-1, 0)])) := by
          rw [pairs_snoc, Nat.zero_add, List.nil_append] at *
          exact owb
        obtain ⟨B, d, rfl, hrp⟩ := own_RP owb (by omega)
        have HRP := Lib.hid hrp
        have LB := Lib.hid lb
        clear owb gb lb hrp
        go_wp2_with fail
        refine (implLotsValid_any _ _ _ _ _ HRP.out).mono ?_; rintro e w5 ⟨rfl, l5⟩
        rw [lots_neg]
        go_wp2_with fail
        refine (implLotsValid_any _ _ _ _ _ (RP.nil w5)).mono ?_; rintro e w6 ⟨rfl, l6⟩
        rw [lots_nil]
        go_wp2_with fail
        refine (alive_any w6).mono ?_; rintro e w7 ⟨rfl, l7⟩
        go_wp2
        go_ret
        exact ⟨rfl, L1.out.trans (L2.out.trans (LB.out.trans (l5.trans (l6.trans l7))))⟩
      · have hk0' : ((k : Int) == 0) = false := by rw [beq_eq_false_iff_ne]; omega
        have hk1 : (1 : Int) ≤ (k : Int) := by omega
        obtain ⟨ad2, had2⟩ : ∃ ad2 : Addr, (if cap = 1 then some (⟨gv, 0, none⟩ : Addr) else some ⟨gv, 2, none⟩) = some ad2 := by split <;> exact ⟨_, rfl⟩
        have hr2 : RP w2 (some ad2) (k - 1) (ps.drop 1) := by
          refine ⟨by rw [List.length_drop, HK.out], by omega, fun j hj => ?_⟩
          obtain ⟨ad, e, c1, c2⟩ := (HR.out.le L2.out).at_ (j + 1) (by omega)
          injection e with e
          subst e
          rw [if_neg (by omega)] at had2
          injection had2 with had2
          subst had2
          have e1 : gp (ps.drop 1) j = gp ps (j + 1) := by
            unfold gp
            rw [List.getD_eq_getElem?_getD, List.getD_eq_getElem?_getD, List.getElem?_drop, Nat.add_comm]
          rw [e1]
          refine ⟨_, rfl, ?_, ?_⟩
          · rw [addrK, show 2 + j * 2 = (j + 1) * 2 by omega]
            rw [addr0] at c1; exact c1
          · rw [addrK]
            rw [addr0] at c2
            simp only at c2 ⊢
            rw [show 2 + j * 2 + 1 = (j + 1) * 2 + 1 by omega]; exact c2
        have ht := lots_tail HV.out
        have HR2 := Lib.hid hr2
        have HT := Lib.hid ht
        clear hr2 ht
        go_wp2_with fail
        refine (implLotsValid_any _ _ _ _ _ HR2.out).mono ?_; rintro e w3 ⟨rfl, l3⟩
        rw [HT.out]
        have L3 := L2.out.trans l3
        clear had2
        go_wp2_with (at_builtin; refine wpList_append_own_g (by rfl) (some 31) rfl (.tmp 29) (.tmp 30) 23 rfl w3.heap.size 40 i0 _ 2 16 Tryd.underlying23 hi0 hz0 hz1 hz2 rfl (by decide) (.slice (some ⟨w3.heap.size, 0, none⟩) 0 0) 0 [] rfl (own_empty _ _ _) ⟨gv, 0, none⟩ k cap (pairs ps) rfl (by rw [pairs_length, HK.out]) (fun j u hj => (own_Le HO1.out (L3.trans ((Le.refl w3).alloc _))).cells (g := gv) rfl j u hj) (pairs_one _) (by unfold maxLen; omega) (by omega) (by simp) ?_)
        intro va wa owa ga _
        have la : Le w3 wa := ((Le.refl w3).alloc _).grown ga (fun q hq => by simp [Value.ownBlock] at hq; omega)
        have HWA := Lib.hid owa
        have LA := Lib.hid la
        clear owa ga la
        go_wp2_with (at_builtin; refine wpList_append_own_g (by rfl) (some 34) rfl (.tmp 31) (.tmp 33) 23 rfl w3.heap.size 40 i0 _ 2 16 Tryd.underlying23 hi0 hz0 hz1 hz2 rfl (by decide) va (0 + k) ([] ++ pairs ps) rfl (HWA.out.alloc _) ⟨wa.heap.size, 0, none⟩ 1 1 [.int .i64 (-1), .int .i64 0] rfl rfl (cell_two' wa _ rfl _ _ _) (fun u hu => by simp at hu; rcases hu with rfl | rfl <;> rfl) (by unfold maxLen; omega) (by omega) (by have := LA.out.size; simp; omega) ?_)
        intro vb wb owb gb _
        have lb : Le w3 wb := (LA.out.alloc _).grown gb (fun q hq => (HWA.out.lt q hq).1)
        have owb : wb.ownsRow w3.heap.size 40 2 vb (k + 1) (pairs (ps ++ [(-1, 0)])) := by
          rw [pairs_snoc, Nat.zero_add, List.nil_append] at *
          exact owb
        obtain ⟨B, d, rfl, hrp⟩ := own_RP owb (by omega)
        have HRP := Lib.hid hrp
        have LB := Lib.hid lb
        clear owb gb lb hrp
        go_wp2_with fail
        refine (implLotsValid_any _ _ _ _ _ HRP.out).mono ?_; rintro e w5 ⟨rfl, l5⟩
        rw [lots_neg]
        go_wp2_with fail
        refine (implLotsValid_any _ _ _ _ _ (RP.nil w5)).mono ?_; rintro e w6 ⟨rfl, l6⟩
        rw [lots_nil]
        go_wp2_with fail
        refine (alive_any w6).mono ?_; rintro e w7 ⟨rfl, l7⟩
        go_wp2
        go_ret
        exact ⟨rfl, L1.out.trans (L3.trans (LB.out.trans (l5.trans (l6.trans l7))))⟩
end Go.Proofs.YteeklaplnhafoaaDoor
