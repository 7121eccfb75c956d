/- Walk: drawn lots, wants and a table. -/
import Derived.Test.YtmemenkioejdoaaDoorMLaw
import Derived.Test.YtmemenkioejdoaaDoorWTakeC
import Derived.Test.YtmemenkioejdoaaDoorWTakeB
import Derived.Test.YtmemenkioejdoaaDoorWUseG
import Derived.Test.YtmemenkioejdoaaDoorWUseH
import Derived.BigRegion
namespace Go.Proofs.YtmemenkioejdoaaDoor
open Go.RowKit

/-- what l20Use leaves: short lots and wants, and some short table -/
def DU (W w : World) (g : Nat) (A : Option Addr) (n c p b : Nat) (e : Ending) (w' : World) : Prop :=
  ∃ gv cap k ps gx capx m xs C r cc tt p', e = .returned (.tuple #[.slice (some ⟨gv, 0, none⟩) k cap, .slice (some ⟨gx, 0, none⟩) m capx, .slice C r cc]) ∧ DL b w' gv cap k ps ∧ DI b w' gx capx m xs ∧ RII w' C r tt ∧ r ≤ 64 ∧ r ≤ cc ∧ Rd W w' g A n c p' ∧ p' ≤ p + 1000 ∧ Chg g (g + 1) w w'
/-- a table of the call's own, as l20Use carries it -/
def UT (b : Nat) (w : World) (v : Value) : Prop :=
  ∃ (r : Nat) (h : Nat → Value) (ts : Nat → List Int), r ≤ 64 ∧ (∀ j, j < r → (ts j).length ≤ 64) ∧ OwnL w b w.heap.size v r h ts

theorem DL.kept {b g0 : Nat} {w w' : World} {gv cap k : Nat} {ps : List (Int × Int)} (h : DL b w gv cap k ps) (hg : w.grownBy w' (some g0)) (hne : gv < g0) : DL b w' gv cap k ps :=
  ⟨h.len, h.small, h.kcap, h.capm, h.own.kept hg (.inr fun e => by have : gv = g0 := Option.some.inj e; omega)⟩
theorem DI.kept {b g0 : Nat} {w w' : World} {gv cap k : Nat} {xs : List Int} (h : DI b w gv cap k xs) (hg : w.grownBy w' (some g0)) (hne : gv < g0) : DI b w' gv cap k xs :=
  ⟨h.len, h.small, h.kcap, h.capm, h.own.kept hg (.inr fun e => by have : gv = g0 := Option.some.inj e; omega)⟩
theorem ints_setU (xs : List Int) (o : Nat) (x : Int) : (ints xs).set o (.int .i64 x) = ints (xs.set o x) := by
  unfold ints; rw [List.map_set]
theorem UT.chg {b lo hi : Nat} {w w' : World} {v : Value} (h : UT b w v) (hc : Chg lo hi w w') (hb : hi ≤ b) : UT b w' v :=
  let ⟨r, f, ts, h1, h2, o⟩ := h
  ⟨r, f, ts, h1, h2, (o.chg hc (.inr hb)).hi_ hc.size⟩
theorem OwnL.push2 {w2 w3 : World} {lo hi k b : Nat} {v v' take : Value} {h : Nat → Value} {ts : Nat → List Int} (o : OwnL w2 lo hi v k h ts) (hlo : lo ≤ b) (hib : hi ≤ b)
    (hr : w2.ownsRow b 3 1 take (ts k).length (ints (ts k))) (ho : w3.ownsRow lo 27 1 v' (k + 1) ((List.range k).map h ++ [take])) (hg : w2.grownBy w3 v.ownBlock)
    (hat : ∀ g, v'.ownBlock = some g → v.ownBlock = some g ∨ w2.heap.size ≤ g) (hk : k + 1 ≤ 1048576) (ht : (ts k).length ≤ 1048576) :
    OwnL w3 lo w3.heap.size v' (k + 1) (fun j => if j = k then take else h j) ts := by
  have hrow3 : ∀ j, j < k → w3.ownsRow lo 3 1 (h j) (ts j).length (ints (ts j)) := fun j hj => (o.row j hj).kept hg (by
    cases hv : (h j).ownBlock with
    | none => exact .inl rfl
    | some g => exact .inr fun e => o.apart0 j hj g hv e.symm)
  have hr3 : w3.ownsRow b 3 1 take (ts k).length (ints (ts k)) := hr.kept hg (by
    cases hv : take.ownBlock with
    | none => exact .inl rfl
    | some g =>
      refine .inr fun e => ?_
      have h1 := o.otop g e.symm
      have h2 := (hr.lt g hv).1
      omega)
  have row3 : ∀ j, j < k + 1 → w3.ownsRow lo 3 1 ((fun j => if j = k then take else h j) j) (ts j).length (ints (ts j)) := fun j hj => by
    by_cases e : j = k
    · subst e; simp only [if_true]; exact own_mono hr3 hlo
    · simp only [if_neg e]; exact hrow3 j (by omega)
  refine ⟨?_, fun g hg' => (ho.lt g hg').2, row3, fun j hj g hg' => ((row3 j hj).lt g hg').2, fun j hj g hg' e => ?_, fun i j hij hj g hi hjg => ?_, hk, fun j hj => ?_⟩
  · have e : (List.range (k + 1)).map (fun j => if j = k then take else h j) = (List.range k).map h ++ [take] := by
      rw [List.range_succ, List.map_append]
      congr 1
      · apply List.map_congr_left
        intro j hj
        rw [if_neg (by have := List.mem_range.1 hj; omega)]
      · simp
    rw [e]; exact ho
  · by_cases q : j = k
    · simp only [if_pos q] at hg'
      have h2 := (hr.lt g hg')
      rcases hat g e with e1 | e1
      · have := o.otop g e1; omega
      · omega
    · simp only [if_neg q] at hg'
      rcases hat g e with e1 | e1
      · exact o.apart0 j (by omega) g hg' e1
      · have := ((o.row j (by omega)).lt g hg').2; omega
  · simp only [if_neg (show ¬ i = k by omega)] at hi
    by_cases e : j = k
    · simp only [if_pos e] at hjg
      have h1 := o.rtop i (by omega) g hi
      have h2 := (hr.lt g hjg).1
      omega
    · simp only [if_neg e] at hjg
      exact o.apart i j hij (by omega) g hi hjg
  · by_cases e : j = k
    · subst e; exact ht
    · exact o.small.2 j (by omega)
theorem pairs_atU (ps : List (Int × Int)) {j : Nat} (hj : j < ps.length) : (pairs ps)[j * 2]? = some (.int .i64 (gp ps j).1) ∧ (pairs ps)[j * 2 + 1]? = some (.int .i64 (gp ps j).2) := by
  induction ps generalizing j with
  | nil => simp at hj
  | cons q ps ih =>
    rw [pairs_cons]
    cases j with
    | zero => exact ⟨rfl, rfl⟩
    | succ j =>
      have := ih (j := j) (by simpa using hj)
      rw [show (j + 1) * 2 = j * 2 + 2 by omega]
      exact this
theorem ints_replU (n : Nat) : (ints (List.replicate n 0)).toArray = madeCells #[.int .i64 0] n := by
  apply Array.ext
  · simp [ints, madeCells]
  · intro i h1 h2
    simp [ints, madeCells, Nat.mod_one]

theorem own_capN {w : World} {base : Nat} {t : TypeId} {size n cap k : Nat} {B : Option Addr} {xs : List Value} (o : w.ownsRow base t size (.slice B n cap) k xs) : k ≤ cap := by
  rcases o.2 with ⟨e, e2⟩ | ⟨g', cap', cur, e, _, _, h2, _⟩
  · injection e with _ _ e3; omega
  · injection e with _ _ e3; omega

set_option maxRecDepth 20000 in
set_option maxHeartbeats 8000000 in
theorem l20Use_any (W w : World) (g : Nat) (A : Option Addr) (n c p : Nat) (h : Rd W w g A n c p) (hp : p ≤ 700000) (b : Nat) (hb1 : g + 1 ≤ b) (hb : b ≤ w.heap.size) :
    Calls Tryd.prog 9 #[.pointer (some ⟨g, 0, none⟩)] w (DU W w g A n c p b) := by
  obtain ⟨i0, hi0, hz0, hz1, hz2⟩ := info_parts infoLot
  obtain ⟨iR, hiR, hzR, hzR1, hzR2⟩ := info_parts infoRow
  have HL := Lib.hid (lots_dl W w g A n c p 14 h (by omega) (by omega) (by omega) b hb)
  clear h
  go_enter Tryd.func9, Tryd.ntmps9
  go_wp2_with fail
  refine HL.out.mono ?_; rintro e w2 ⟨gv, cap, k, ps, p2, rfl, d2, r2, q2, c2⟩
  have HW := Lib.hid (wants_di _ _ _ _ _ _ _ 14 r2 (by omega) (by omega) (by omega) b (by have := c2.size; omega))
  have D2 := Lib.hid d2
  have C2 := Lib.hid c2
  clear d2 c2 r2
  go_wp2_with fail
  refine HW.out.mono ?_; rintro e w3 ⟨gx, capx, m, xs, p3, rfl, i3, r3, q3, c3⟩
  have hk6 := D2.out.small
  have hkc := D2.out.kcap
  have hm7 := i3.small
  have hmc := i3.kcap
  have D3 := Lib.hid (D2.out.chg c3 hb1)
  have I3 := Lib.hid i3
  have C3 := Lib.hid (C2.out.trans c3)
  have R3 := Lib.hid r3
  clear i3 c3 r3
  go_wp2
  go_loopw [7, 8] (fun v i wr => ∃ (s : Int) (m' : Nat) (qs : List (Int × Int)), (-1 ≤ s ∧ s < k) ∧ (m' : Int) + s + 1 = k ∧ i = .int .i64 s ∧ wr.ownsRow w3.heap.size 44 2 v m' (pairs qs) ∧ Le w3 wr) (fun _ i _ => (intOf i + 1).toNat)
  case atStart => exact ⟨(k : Int) - 1, 0, [], by omega, by omega, rfl, own_empty _ _ _, (Le.refl w3).alloc _⟩
  case round =>
    obtain ⟨s, m', qs, ⟨hs1, hs2⟩, hms, rfl, ho, hle⟩ := hrel
    by_cases h0 : 0 ≤ s
    · obtain ⟨q, rfl⟩ := Int.eq_ofNat_of_zero_le h0
      obtain ⟨ad, e2, p1, p2'⟩ := (D3.out.le hle).rp.at_ q (by omega)
      injection e2 with e2
      subst e2
      rw [addr0] at p1 p2'
      obtain ⟨a1, ha1⟩ : ∃ a, (gp ps q).1 = a := ⟨_, rfl⟩
      obtain ⟨a2, ha2⟩ : ∃ a, (gp ps q).2 = a := ⟨_, rfl⟩
      rw [ha1] at p1
      rw [ha2] at p2'
      have HO := Lib.hid ho
      have HLe := Lib.hid hle
      clear ho hle ha1 ha2
      go_wp2_with (at_builtin; refine wpList_append_own _ rfl _ _ 30 rfl w3.heap.size 44 i0 _ 2 16 Tryd.underlying30 hi0 hz0 hz1 hz2 rfl (by decide) _ m' (pairs qs) rfl (HO.out.alloc _) ⟨wr.heap.size, 0, none⟩ 1 1 [.int .i64 a1, .int .i64 a2] rfl rfl (cell_two' wr _ rfl _ _ _) (fun u hu => by simp at hu; rcases hu with rfl | rfl <;> rfl) (by unfold maxLen; omega) (by omega) (by have := HLe.out.size; simp; omega) ?_)
      intro v' w4 ho4 hg4 _
      have l4 : Le w3 w4 := (HLe.out.alloc _).grown hg4 (fun q hq => (HO.out.lt q hq).1)
      have HO4 := Lib.hid ho4
      have HL4 := Lib.hid l4
      clear ho4 hg4 l4 p1 p2'
      go_wp2
      go_roundw
      case rel => exact ⟨(q : Int) - 1, m' + 1, qs ++ [(a1, a2)], by omega, by omega, rfl, by rw [pairs_snoc]; exact HO4.out, HL4.out⟩
      case measure => simp [intOf] <;> omega
    · obtain rfl : s = -1 := by omega
      have HLe := Lib.hid hle
      clear ho hle
      have D4 := Lib.hid (D3.out.le HLe.out)
      have I4 := Lib.hid (I3.out.le HLe.out)
      have R4 := Lib.hid (R3.out.more HLe.out)
      have C4 := Lib.hid (C3.out.more HLe.out)
      have hbr : b ≤ wr.heap.size := by have := C4.out.size; omega
      have hgr : g + 1 ≤ wr.heap.size := by omega
      go_wp2_with fail
      refine (specUseFirst_any _ _ _ _ cap capx _ _ _ D4.out.rp I4.out.ri).mono ?_; rintro e w5 ⟨v5, h5, rfl, o5, l5⟩
      have R5 := Lib.hid (R4.out.more l5)
      have C5 := Lib.hid (C4.out.more l5)
      have D5 := Lib.hid (D4.out.le l5)
      have I5 := Lib.hid (I4.out.le l5)
      have hu5 : UT wr.heap.size w5 v5 := ⟨_, h5, _, useFirstL_len ps xs, fun j hj => Nat.le_trans (useFirstL_row ps xs j hj) (by omega), o5⟩
      have U5 := Lib.hid hu5
      clear o5 l5 hu5
      go_wp2_with fail
      refine (pick_any _ _ _ _ _ _ _ 2 R5.out (by omega) (by omega) (by omega)).mono ?_; rintro e w6 ⟨x6, rfl, hx6, r6, c6⟩
      have R6 := Lib.hid r6
      have C6 := Lib.hid (C5.out.trans c6)
      have D6 := Lib.hid (D5.out.chg c6 hb1)
      have I6 := Lib.hid (I5.out.chg c6 hb1)
      have U6 := Lib.hid (UT.chg U5.out c6 hgr)
      clear r6 c6
      by_cases hx0 : x6 = 0
      · have hxe : ((x6 : Int) == 0) = true := by rw [hx0]; rfl
        clear hx0
        go_wp2_with fail
        refine (specLotsValid_any _ _ _ _ _ D6.out.rp).mono ?_; rintro e w' ⟨rfl, rfl⟩
        obtain ⟨V, hV⟩ : ∃ V, lotsL ps = V := ⟨_, rfl⟩
        rw [hV]
        have HV := Lib.hid hV
        clear hV
        cases V
        · have hgrL := hgr
          have DB := D4
          have IB := I4
          have CB := C4
          have DD := D6
          have II := I6
          have RR := R6
          have CC := C6
          have UU := U6
          obtain ⟨rT, hT, tsT, hr64, hts64, oT⟩ := UU.out
          obtain ⟨CT, ccT, rfl, riiT⟩ := oT.reads (tt := (List.range rT).map tsT) (by simp) (fun j hj => gl_range _ _ hj)
          have hrcc := own_capN oT.outer
          have OT := Lib.hid oT
          have RT := Lib.hid riiT
          clear oT riiT
          go_wp2_with fail
          refine (odd_any _ _ _ _ _ _ _ 9 RR.out (by omega) (by omega) (by omega)).mono ?_; rintro e wO ⟨tO, rfl, rO, cO⟩
          have oO := OT.out.chg cO (.inr hgrL)
          obtain ⟨_, _, eO, riiO⟩ := oO.reads (tt := (List.range rT).map tsT) (by simp) (fun j hj => gl_range _ _ hj)
          injection eO with eO1 eO2 eO3
          subst eO1
          have DO := Lib.hid (DD.out.chg cO hb1)
          have IO := Lib.hid (II.out.chg cO hb1)
          have RO := Lib.hid rO
          have CO := Lib.hid (CC.out.trans cO)
          have TO := Lib.hid riiO
          have OO := Lib.hid oO
          clear oO riiO rO cO eO2 eO3
          cases tO
          · go_wp2
            (try simp only [Exit.inBlock, Exit.then])
            refine bodyPost_ret (results_tmp3 rfl _ _ _) rfl ?_
            exact ⟨gv, cap, k, ps, gx, capx, m, xs, CT, rT, ccT, _, _, rfl, DO.out, IO.out, TO.out, hr64, hrcc, RO.out, by omega, CO.out⟩
          · by_cases hr0 : rT = 0
            · have hrd : decide ((0 : Int) < (rT : Int)) = false := decide_eq_false (by omega)
              have hrd2 : decide (0 < rT) = false := decide_eq_false (by omega)
              have HR0 := Lib.hid hr0
              clear hr0
              go_wp2
              (try simp only [Exit.inBlock, Exit.then])
              refine bodyPost_ret (results_tmp3 rfl _ _ _) rfl ?_
              exact ⟨gv, cap, k, ps, gx, capx, m, xs, CT, rT, ccT, _, _, rfl, DO.out, IO.out, TO.out, hr64, hrcc, RO.out, by omega, CO.out⟩
            · have hrd : decide ((0 : Int) < (rT : Int)) = true := decide_eq_true (by omega)
              have hrd2 : decide (0 < rT) = true := decide_eq_true (by omega)
              obtain ⟨gu, cu, eu, _, _⟩ := OO.out.outer.form (by omega)
              injection eu with eu1 eu2 eu3
              subst eu1
              obtain ⟨ad, B0, m0, d0, ea, k0, rw0⟩ := TO.out.at_ 0 (by omega)
              injection ea with ea
              subst ea
              rw [addr0] at k0
              have row0 := OO.out.row 0 (by omega)
              have cell0 := OO.out.outer.cells (g := gu) rfl 0 (hT 0) (by rw [List.getElem?_map, List.getElem?_range (by omega)]; rfl)
              rw [addr0, k0] at cell0
              injection cell0 with cell0
              have hm0 := rw0.len
              rw [gl_range _ _ (by omega : 0 < rT)] at hm0
              rw [← cell0, hm0] at row0
              have hm64 := hts64 0 (by omega)
              rw [hm0] at hm64
              clear eu2 eu3
              by_cases hz0 : m0 = 0
              · have hmd : decide ((0 : Int) < (m0 : Int)) = false := decide_eq_false (by omega)
                have hmd2 : decide (0 < m0) = false := decide_eq_false (by omega)
                have HZ0 := Lib.hid hz0
                have HRO := Lib.hid row0
                have HC0 := Lib.hid cell0
                have HM0 := Lib.hid hm0
                clear hz0 row0 cell0 hm0
                go_wp2
                (try simp only [Exit.inBlock, Exit.then])
                refine bodyPost_ret (results_tmp3 rfl _ _ _) rfl ?_
                exact ⟨gv, cap, k, ps, gx, capx, m, xs, _, rT, ccT, _, _, rfl, DO.out, IO.out, TO.out, hr64, hrcc, RO.out, by omega, CO.out⟩
              · have hmd : decide ((0 : Int) < (m0 : Int)) = true := decide_eq_true (by omega)
                have hmd2 : decide (0 < m0) = true := decide_eq_true (by omega)
                obtain ⟨g0, c0, e0, hg0lo, _⟩ := row0.form (by omega)
                injection e0 with e01 e02 e03
                subst e01
                have zc := row0.cellAt 0 (by omega)
                rw [ints_getElem? (by omega)] at zc
                have zf := row0.frozenAt 0
                obtain ⟨z, hz⟩ : ∃ z, gi (tsT 0) 0 = z := ⟨_, rfl⟩
                rw [hz] at zc
                obtain ⟨y, hy⟩ : ∃ y, IntKind.i64.wrap (z + 1) = y := ⟨_, rfl⟩
                have hsto := fun (wq : World) (hq : Le wO wq) => (own_Le row0 hq).stored 0 (.int .i64 y)
                have HRO := Lib.hid row0
                have HC0 := Lib.hid cell0
                have HM0 := Lib.hid hm0
                have HSTO := Lib.hid hsto
                clear e02 e03 row0 cell0 hm0 hsto hz
                go_wp2
                go_region
                go_wp2
                (try simp only [Exit.inBlock, Exit.then])
                refine bodyPost_ret (results_tmp3 rfl _ _ _) rfl ?_
                obtain ⟨oS, gS⟩ := HSTO.out wO.drew ((Le.refl wO).drew)
                rw [ints_setU] at oS
                have lD : Le wO wO.drew := (Le.refl wO).drew
                have hgl := hg0lo
                have gvl : gv < g0 := Nat.lt_of_lt_of_le (DB.out.own.lt gv rfl).2 hgl
                have gxl : gx < g0 := Nat.lt_of_lt_of_le (IB.out.own.lt gx rfl).2 hgl
                have hgg : g < g0 := by omega
                have hwg : w.heap.size ≤ g0 := by have := CB.out.size; omega
                have oM := (OO.out.le lD).mark (k := 0) (by omega) (by rw [← HC0.out]; exact gS) (ys := (tsT 0).set 0 y) (by rw [List.length_set]) (by rw [← HC0.out, List.length_set, HM0.out]; exact oS)
                obtain ⟨_, _, eM, riiM⟩ := oM.reads (tt := (List.range rT).map _) (by simp) (fun j hj => gl_range _ _ hj)
                injection eM with eM1 eM2 eM3
                subst eM1
                exact ⟨gv, cap, k, ps, gx, capx, m, xs, _, rT, ccT, _, _, rfl, (DO.out.le lD).kept gS gvl, (IO.out.le lD).kept gS gxl, riiM, hr64, hrcc, (RO.out.more lD).grown gS (fun q hq => by have : g0 = q := Option.some.inj hq; omega), by omega, (CO.out.more lD).row gS (fun q hq => by have : g0 = q := Option.some.inj hq; omega)⟩
        · go_wp2_with fail
          refine (specWantsValid_any _ _ _ _ _ I6.out.ri).mono ?_; rintro e w' ⟨rfl, rfl⟩
          obtain ⟨U, hU⟩ : ∃ U, wantsL xs = U := ⟨_, rfl⟩
          rw [hU]
          have HU := Lib.hid hU
          clear hU
          cases U
          · have hgrL := hgr
            have DB := D4
            have IB := I4
            have CB := C4
            have DD := D6
            have II := I6
            have RR := R6
            have CC := C6
            have UU := U6
            obtain ⟨rT, hT, tsT, hr64, hts64, oT⟩ := UU.out
            obtain ⟨CT, ccT, rfl, riiT⟩ := oT.reads (tt := (List.range rT).map tsT) (by simp) (fun j hj => gl_range _ _ hj)
            have hrcc := own_capN oT.outer
            have OT := Lib.hid oT
            have RT := Lib.hid riiT
            clear oT riiT
            go_wp2_with fail
            refine (odd_any _ _ _ _ _ _ _ 9 RR.out (by omega) (by omega) (by omega)).mono ?_; rintro e wO ⟨tO, rfl, rO, cO⟩
            have oO := OT.out.chg cO (.inr hgrL)
            obtain ⟨_, _, eO, riiO⟩ := oO.reads (tt := (List.range rT).map tsT) (by simp) (fun j hj => gl_range _ _ hj)
            injection eO with eO1 eO2 eO3
            subst eO1
            have DO := Lib.hid (DD.out.chg cO hb1)
            have IO := Lib.hid (II.out.chg cO hb1)
            have RO := Lib.hid rO
            have CO := Lib.hid (CC.out.trans cO)
            have TO := Lib.hid riiO
            have OO := Lib.hid oO
            clear oO riiO rO cO eO2 eO3
            cases tO
            · go_wp2
              (try simp only [Exit.inBlock, Exit.then])
              refine bodyPost_ret (results_tmp3 rfl _ _ _) rfl ?_
              exact ⟨gv, cap, k, ps, gx, capx, m, xs, CT, rT, ccT, _, _, rfl, DO.out, IO.out, TO.out, hr64, hrcc, RO.out, by omega, CO.out⟩
            · by_cases hr0 : rT = 0
              · have hrd : decide ((0 : Int) < (rT : Int)) = false := decide_eq_false (by omega)
                have hrd2 : decide (0 < rT) = false := decide_eq_false (by omega)
                have HR0 := Lib.hid hr0
                clear hr0
                go_wp2
                (try simp only [Exit.inBlock, Exit.then])
                refine bodyPost_ret (results_tmp3 rfl _ _ _) rfl ?_
                exact ⟨gv, cap, k, ps, gx, capx, m, xs, CT, rT, ccT, _, _, rfl, DO.out, IO.out, TO.out, hr64, hrcc, RO.out, by omega, CO.out⟩
              · have hrd : decide ((0 : Int) < (rT : Int)) = true := decide_eq_true (by omega)
                have hrd2 : decide (0 < rT) = true := decide_eq_true (by omega)
                obtain ⟨gu, cu, eu, _, _⟩ := OO.out.outer.form (by omega)
                injection eu with eu1 eu2 eu3
                subst eu1
                obtain ⟨ad, B0, m0, d0, ea, k0, rw0⟩ := TO.out.at_ 0 (by omega)
                injection ea with ea
                subst ea
                rw [addr0] at k0
                have row0 := OO.out.row 0 (by omega)
                have cell0 := OO.out.outer.cells (g := gu) rfl 0 (hT 0) (by rw [List.getElem?_map, List.getElem?_range (by omega)]; rfl)
                rw [addr0, k0] at cell0
                injection cell0 with cell0
                have hm0 := rw0.len
                rw [gl_range _ _ (by omega : 0 < rT)] at hm0
                rw [← cell0, hm0] at row0
                have hm64 := hts64 0 (by omega)
                rw [hm0] at hm64
                clear eu2 eu3
                by_cases hz0 : m0 = 0
                · have hmd : decide ((0 : Int) < (m0 : Int)) = false := decide_eq_false (by omega)
                  have hmd2 : decide (0 < m0) = false := decide_eq_false (by omega)
                  have HZ0 := Lib.hid hz0
                  have HRO := Lib.hid row0
                  have HC0 := Lib.hid cell0
                  have HM0 := Lib.hid hm0
                  clear hz0 row0 cell0 hm0
                  go_wp2
                  (try simp only [Exit.inBlock, Exit.then])
                  refine bodyPost_ret (results_tmp3 rfl _ _ _) rfl ?_
                  exact ⟨gv, cap, k, ps, gx, capx, m, xs, _, rT, ccT, _, _, rfl, DO.out, IO.out, TO.out, hr64, hrcc, RO.out, by omega, CO.out⟩
                · have hmd : decide ((0 : Int) < (m0 : Int)) = true := decide_eq_true (by omega)
                  have hmd2 : decide (0 < m0) = true := decide_eq_true (by omega)
                  obtain ⟨g0, c0, e0, hg0lo, _⟩ := row0.form (by omega)
                  injection e0 with e01 e02 e03
                  subst e01
                  have zc := row0.cellAt 0 (by omega)
                  rw [ints_getElem? (by omega)] at zc
                  have zf := row0.frozenAt 0
                  obtain ⟨z, hz⟩ : ∃ z, gi (tsT 0) 0 = z := ⟨_, rfl⟩
                  rw [hz] at zc
                  obtain ⟨y, hy⟩ : ∃ y, IntKind.i64.wrap (z + 1) = y := ⟨_, rfl⟩
                  have hsto := fun (wq : World) (hq : Le wO wq) => (own_Le row0 hq).stored 0 (.int .i64 y)
                  have HRO := Lib.hid row0
                  have HC0 := Lib.hid cell0
                  have HM0 := Lib.hid hm0
                  have HSTO := Lib.hid hsto
                  clear e02 e03 row0 cell0 hm0 hsto hz
                  go_wp2
                  go_region
                  go_wp2
                  (try simp only [Exit.inBlock, Exit.then])
                  refine bodyPost_ret (results_tmp3 rfl _ _ _) rfl ?_
                  obtain ⟨oS, gS⟩ := HSTO.out wO.drew ((Le.refl wO).drew)
                  rw [ints_setU] at oS
                  have lD : Le wO wO.drew := (Le.refl wO).drew
                  have hgl := hg0lo
                  have gvl : gv < g0 := Nat.lt_of_lt_of_le (DB.out.own.lt gv rfl).2 hgl
                  have gxl : gx < g0 := Nat.lt_of_lt_of_le (IB.out.own.lt gx rfl).2 hgl
                  have hgg : g < g0 := by omega
                  have hwg : w.heap.size ≤ g0 := by have := CB.out.size; omega
                  have oM := (OO.out.le lD).mark (k := 0) (by omega) (by rw [← HC0.out]; exact gS) (ys := (tsT 0).set 0 y) (by rw [List.length_set]) (by rw [← HC0.out, List.length_set, HM0.out]; exact oS)
                  obtain ⟨_, _, eM, riiM⟩ := oM.reads (tt := (List.range rT).map _) (by simp) (fun j hj => gl_range _ _ hj)
                  injection eM with eM1 eM2 eM3
                  subst eM1
                  exact ⟨gv, cap, k, ps, gx, capx, m, xs, _, rT, ccT, _, _, rfl, (DO.out.le lD).kept gS gvl, (IO.out.le lD).kept gS gxl, riiM, hr64, hrcc, (RO.out.more lD).grown gS (fun q hq => by have : g0 = q := Option.some.inj hq; omega), by omega, (CO.out.more lD).row gS (fun q hq => by have : g0 = q := Option.some.inj hq; omega)⟩
          · go_wp2
            have hg6 : g + 1 ≤ w6.heap.size := R6.out.lt
            have O0 := OwnL.empty w6 (fun _ => Value.slice none 0 0) (fun _ => [])
            go_loopw [9, 10, 11] (fun out now i wx => ∃ (k2 : Nat) (An : Option Addr) (cn : Nat) (R : List (Int × Int)) (p' : Nat) (hh : Nat → Value) (ts : Nat → List Int), k2 ≤ m ∧ i = .int .i64 k2 ∧ now = .slice An k cn ∧ wx.ownsRow (g + 1) 44 2 (.slice An k cn) k (pairs R) ∧ lotsL R = true ∧ Rd W wx g A n c p' ∧ p' ≤ p3 + 1 + k2 ∧ Chg g (g + 1) w6 wx ∧ OwnL wx w6.heap.size wx.heap.size out k2 hh ts ∧ ∀ j, j < k2 → (ts j).length ≤ 64) (fun _ _ i _ => m - (intOf i).toNat)
            case atStart => exact ⟨0, _, _, ps, _, _, _, Nat.zero_le _, rfl, rfl, own_mono (D6.out.own.alloc _) hb1, HV.out, R6.out.more ((Le.refl w6).alloc _), by omega, Chg.of_le ((Le.refl w6).alloc _), O0, fun j hj => absurd hj (by omega)⟩
            case round =>
              obtain ⟨k2, An, cn, R, p', hh, ts, hk2, rfl, rfl, on, lR, rX, hp', cX, oX, hts⟩ := hrel
              obtain ⟨wx, hwx⟩ : ∃ wx, wx = wr := ⟨_, rfl⟩
              subst hwx
              have IX := I6.out.chg cX hb1
              by_cases hlt : k2 < m
              · obtain ⟨ad, e2, k0⟩ := IX.ri.at_ k2 hlt
                injection e2 with e2
                subst e2
                rw [addr0] at k0
                obtain ⟨hw0, hw5⟩ := gi_wants HU.out k2
                obtain ⟨a, ha⟩ : ∃ a, gi xs k2 = a := ⟨_, rfl⟩
                rw [ha] at k0 hw0 hw5
                obtain ⟨an, rfl⟩ := Int.eq_ofNat_of_zero_le hw0
                have hmk := run_mk (P := Tryd.prog) 27 3 (.int .i64 0) 1 8 Tryd.underlying27 infoInt k (by omega) (by omega)
                obtain ⟨wz, hwz⟩ : ∃ wz, wx.alloc (.cells (madeCells #[.int .i64 0] k) 3) = wz := ⟨_, rfl⟩
                have lz : Le wx wz := by rw [← hwz]; exact (Le.refl wx).alloc _
                have bz : BlkI wz wx.heap.size (List.replicate k 0) := by
                  rw [← hwz]; unfold BlkI; rw [ints_replU]; exact Blk.new _ _ _
                have oz := Blk.ownI bz (Nat.le_refl _) (n := k) (by simp) (by omega)
                have hpk := pick_any _ _ _ _ _ _ _ (an + 1) (rX.more lz) (by omega) (by omega) (by omega)
                rw [show ((an + 1 : Nat) : Int) = (an : Int) + 1 from rfl] at hpk
                have kz := lz.cell k0
                have rXb : g + 1 ≤ wx.heap.size := rX.lt
                have HPK := Lib.hid hpk
                have OZ := Lib.hid oz
                have CX := Lib.hid cX
                have LZ := Lib.hid lz
                have ON := Lib.hid on
                have LR := Lib.hid lR
                have OX := Lib.hid oX
                have HTS := Lib.hid hts
                clear hpk oz lz bz on lR oX cX rX IX k0 ha hts O0
                go_wp2_with fail
                refine HPK.out.mono ?_; rintro e w8 ⟨x8, rfl, hx8, r8, c8⟩
                have C8 := Lib.hid ((Chg.of_le LZ.out).trans c8)
                have O8 := Lib.hid (Chg.own2 OZ.out c8 (by have h1 := rXb; omega))
                have R8 := Lib.hid r8
                have hRl : R.length = k := by have := ON.out.1; rw [pairs_length] at this; omega
                have hRf := (lots_facts hRl LR.out).2
                have RF := Lib.hid hRf
                have HRL := Lib.hid hRl
                clear r8 c8 hRf hRl hwz
                go_wp2
                go_loopw [13, 14] (fun lf i wy => ∃ (s lft : Int) (T : List Int), (-1 ≤ s ∧ s < k) ∧ i = .int .i64 s ∧ lf = .int .i64 lft ∧ (0 ≤ lft ∧ lft ≤ 50) ∧ wy.ownsRow wx.heap.size 3 1 (.slice (some ⟨wx.heap.size, 0, none⟩) k k) k (ints T) ∧ (∀ j, j < k → (0 ≤ gi T j ∧ gi T j ≤ (gp R j).1) ∧ ((k2 : Int) ≤ (gp R j).2 ∨ gi T j = 0)) ∧ Rd W wy g A n c (p' + 1) ∧ Chg g (g + 1) wx wy) (fun _ i _ => (intOf i + 1).toNat)
                case atStart => exact ⟨(k : Int) - 1, (x8 : Int), List.replicate k 0, by omega, by first | rfl | (congr 1), rfl, by omega, O8.out, fun j hj => by rw [show gi (List.replicate k 0) j = 0 by unfold gi; rw [List.getD_eq_getElem?_getD, List.getElem?_replicate, if_pos hj]; rfl]; exact ⟨⟨Int.le_refl _, (RF.out j hj).1.1⟩, .inr rfl⟩, R8.out, C8.out⟩
                case round =>
                  obtain ⟨s, lft, T, ⟨hs1, hs2⟩, rfl, rfl, ⟨hl0, hl5⟩, oY, hT, rY, cY⟩ := hrel
                  obtain ⟨wy, hwy⟩ : ∃ wy, wy = wr := ⟨_, rfl⟩
                  subst hwy
                  have CY := Lib.hid cY
                  have OY := Lib.hid oY
                  have RY := Lib.hid rY
                  have HT := Lib.hid hT
                  have onY := Chg.own2 ON.out cY (Nat.le_refl _)
                  clear cY oY rY hT
                  by_cases h0 : 0 ≤ s
                  · obtain ⟨q, rfl⟩ := Int.eq_ofNat_of_zero_le h0
                    have hq : q < k := by omega
                    obtain ⟨gn, cn2, en, _, _⟩ := onY.form (by omega)
                    injection en with en1 en2 en3
                    subst en1
                    have a1 := onY.cellAt (q * 2) (by omega)
                    have a2 := onY.cellAt (q * 2 + 1) (by omega)
                    rw [(pairs_atU R (j := q) (by rw [HRL.out]; exact hq)).1] at a1
                    rw [(pairs_atU R (j := q) (by rw [HRL.out]; exact hq)).2] at a2
                    obtain ⟨⟨f1, f2⟩, f3, f4⟩ := RF.out q hq
                    obtain ⟨many, hmany⟩ : ∃ z, (gp R q).1 = z := ⟨_, rfl⟩
                    obtain ⟨last, hlast⟩ : ∃ z, (gp R q).2 = z := ⟨_, rfl⟩
                    rw [hmany] at a1 f1 f2
                    rw [hlast] at a2 f3 f4
                    have HMA := Lib.hid hmany
                    have HLA := Lib.hid hlast
                    have OnY := Lib.hid onY
                    clear hmany hlast onY en2 en3
                    by_cases hd : (k2 : Int) ≤ last
                    · obtain ⟨t, ht⟩ : ∃ t, min many lft = t := ⟨_, rfl⟩
                      have hmin : (if lft < many then lft else many) = t := by rw [← ht]; split <;> omega
                      have ht0 : 0 ≤ t := by omega
                      have ht1 : t ≤ many := by omega
                      have ht2 : t ≤ lft := by omega
                      have b1 := OY.out.cellAt q (by omega)
                      have hTl : T.length = k := by have := OY.out.1; rw [ints_length] at this; omega
                      rw [ints_getElem? (by omega)] at b1
                      have z1 := OY.out.frozenAt q
                      obtain ⟨oS, gS⟩ := OY.out.stored q (.int .i64 t)
                      obtain ⟨w1s, hw1s⟩ : ∃ w1s, wy.setCell ⟨wx.heap.size, q, none⟩ (.int .i64 t) = w1s := ⟨_, rfl⟩
                      rw [hw1s] at oS gS
                      rw [ints_setU] at oS
                      have b2 := oS.cellAt q (by omega)
                      rw [ints_getElem? (by rw [List.length_set]; omega), gi_setP (by omega), if_pos rfl] at b2
                      have OS := Lib.hid oS
                      have CS := Lib.hid (CY.out.row gS (fun q' hq' => by have : wx.heap.size = q' := Option.some.inj hq'; omega))
                      have RS := Lib.hid (RY.out.grown gS (fun q' hq' => by have : wx.heap.size = q' := Option.some.inj hq'; omega))
                      have HTL := Lib.hid hTl
                      clear oS gS hTl
                      go_wp2
                      go_roundw
                      case rel =>
                        refine ⟨(q : Int) - 1, lft - t, T.set q t, by omega, rfl, by first | rfl | rw [ht], by omega, OS.out, fun j hj => ?_, RS.out, CS.out⟩
                        rw [gi_setP (by rw [HTL.out]; exact hq)]
                        split
                        · rename_i e
                          subst e
                          rw [HMA.out, HLA.out]
                          exact ⟨⟨ht0, ht1⟩, .inl hd⟩
                        · exact HT.out j hj
                      case measure => simp [intOf] <;> omega
                    · go_wp2
                      go_roundw
                      case rel => exact ⟨(q : Int) - 1, lft, T, by omega, rfl, rfl, by omega, OY.out, HT.out, RY.out, CY.out⟩
                      case measure => simp [intOf] <;> omega
                  · obtain rfl : s = -1 := by omega
                    have hTl : T.length = k := by have := OY.out.1; rw [ints_length] at this; omega
                    have hok : takeOkL R (k2 : Int) T = true := takeOkL_t HRL.out LR.out hTl (fun j hj => by
                      obtain ⟨⟨t1, t2⟩, t3⟩ := HT.out j hj
                      unfold tkAt inB
                      rw [decide_eq_true t1, decide_eq_true t2]
                      rcases t3 with t3 | t3
                      · rw [decide_eq_true t3]; rfl
                      · rw [decide_eq_true t3]; simp)
                    obtain ⟨BT, dT, eT, rT⟩ := own_RI OY.out (by omega)
                    injection eT with eT1 eT2 eT3
                    subst eT1
                    clear eT2 eT3
                    have e0 : takeDoR R (k2 : Int) T = takeDoL R T := by unfold takeDoR; rw [if_pos hok]
                    have el : (takeDoL R T).length = k := by rw [takeDoL_length, HRL.out]
                    have htd := slice_retPB (specTakeDo_any _ _ _ _ cn k _ (k2 : Int) _ _ (own_RP2 onY (by omega)) rT) (by rw [e0, el]; omega)
                    rw [e0, el] at htd
                    have HTD := Lib.hid htd
                    have LR2 := Lib.hid (takeDoL_lots hok)
                    have OX2 := Lib.hid (OX.out.chg CY.out (.inr (by omega)))
                    clear htd hok e0 el rT onY hTl
                    go_wp2_with fail
                    refine HTD.out.mono ?_; rintro e w9 ⟨A9, c9, rfl, _, o9, l9⟩
                    have hsx := CX.out.size
                    have hsy := CY.out.size
                    have hs9 := l9.size
                    have OX3 := Lib.hid ((OX2.out.le l9).le ((Le.refl w9).alloc (.cells #[.slice (some ⟨wx.heap.size, 0, none⟩) k k] 27)))
                    have OY3 := Lib.hid ((own_Le OY.out l9).alloc (.cells #[.slice (some ⟨wx.heap.size, 0, none⟩) k k] 27))
                    have O9 := Lib.hid (o9.alloc (.cells #[.slice (some ⟨wx.heap.size, 0, none⟩) k k] 27))
                    have R9 := Lib.hid ((RY.out.more l9).more ((Le.refl w9).alloc (.cells #[.slice (some ⟨wx.heap.size, 0, none⟩) k k] 27)))
                    have C9 := Lib.hid (((CX.out.trans CY.out).more l9).more ((Le.refl w9).alloc (.cells #[.slice (some ⟨wx.heap.size, 0, none⟩) k k] 27)))
                    clear o9 l9
                    go_wp2_with (at_builtin; refine wpList_append_own_at _ rfl (.tmp 106) (.tmp 108) _ rfl w6.heap.size 27 iR (.slice none 0 0) 1 24 Tryd.underlying23 hiR hzR hzR1 hzR2 rfl (by decide) _ k2 ((List.range k2).map hh) rfl OX3.out.outer ⟨w9.heap.size, 0, none⟩ 1 1 [.slice (some ⟨wx.heap.size, 0, none⟩) k k] rfl rfl (cell_one' _ _ rfl _ _) (fun u hu => by simp at hu; rcases hu with rfl; rfl) (by unfold maxLen; omega) (by omega) (by simp; omega) ?_)
                    intro v' wq hown' hgrow _ hat
                    have hpu := (OX3.out.congr (ts' := fun j => if j = k2 then T else ts j) (fun j hj => by simp only [if_neg (show ¬ j = k2 by omega)])).push2 (b := wx.heap.size) (take := .slice (some ⟨wx.heap.size, 0, none⟩) k k) hsx (Nat.le_refl _) (by simp only [if_true]; have := OY3.out.1; rw [ints_length] at this; rw [show T.length = k by omega]; exact OY3.out) hown' hgrow
                      (fun g hg => by
                        rcases hat with e | e
                        · exact .inl (e ▸ hg)
                        · rw [e] at hg; injection hg with hg; exact .inr (by first | omega | (rw [World.size_alloc]; omega))) (by omega) (by simp only [if_true]; have := OY3.out.1; rw [ints_length] at this; omega)
                    have onQ : wq.ownsRow (g + 1) 44 2 (.slice A9 k c9) k (pairs (takeDoL R T)) := own_mono (own_gb O9.out hgrow fun g hg => by have h1 := OX3.out.otop g hg; omega) (by omega)
                    have rQ := R9.out.grown hgrow (fun q hq => by have := (OX3.out.outer.lt q hq).1; omega)
                    have cQ := C9.out.row hgrow (fun q hq => (OX3.out.outer.lt q hq).1)
                    have htQ : ∀ j, j < k2 + 1 → ((fun j => if j = k2 then T else ts j) j).length ≤ 64 := fun j hj => by
                      by_cases e : j = k2
                      · simp only [if_pos e]; have := OY3.out.1; rw [ints_length] at this; omega
                      · simp only [if_neg e]; exact HTS.out j (by omega)
                    have HPU := Lib.hid hpu
                    have ONQ := Lib.hid onQ
                    have RQ := Lib.hid rQ
                    have CQ := Lib.hid cQ
                    have HTQ := Lib.hid htQ
                    clear hpu onQ rQ cQ htQ hown' hgrow hat
                    go_wp2
                    go_roundw
                    case rel => exact ⟨k2 + 1, A9, c9, takeDoL R T, p' + 1, _, _, by omega, by go_num, rfl, ONQ.out, LR2.out, RQ.out, by omega, CQ.out, HPU.out, HTQ.out⟩
                    case measure => simp [intOf] <;> omega
              · obtain rfl : m = k2 := by omega
                have RE := Lib.hid rX
                have CE := Lib.hid (C6.out.trans cX)
                have DE := Lib.hid (D6.out.chg cX hb1)
                have IE := Lib.hid IX
                have UE := Lib.hid (show UT w6.heap.size wx _ from ⟨m, hh, ts, by omega, hts, oX⟩)
                clear rX cX IX hts oX on lR O0
                have hgrL := hg6
                have DB := D6
                have IB := I6
                have CB := C6
                have DD := DE
                have II := IE
                have RR := RE
                have CC := CE
                have UU := UE
                obtain ⟨rT, hT, tsT, hr64, hts64, oT⟩ := UU.out
                obtain ⟨CT, ccT, rfl, riiT⟩ := oT.reads (tt := (List.range rT).map tsT) (by simp) (fun j hj => gl_range _ _ hj)
                have hrcc := own_capN oT.outer
                have OT := Lib.hid oT
                have RT := Lib.hid riiT
                clear oT riiT
                go_wp2_with fail
                refine (odd_any _ _ _ _ _ _ _ 9 RR.out (by omega) (by omega) (by omega)).mono ?_; rintro e wO ⟨tO, rfl, rO, cO⟩
                have oO := OT.out.chg cO (.inr hgrL)
                obtain ⟨_, _, eO, riiO⟩ := oO.reads (tt := (List.range rT).map tsT) (by simp) (fun j hj => gl_range _ _ hj)
                injection eO with eO1 eO2 eO3
                subst eO1
                have DO := Lib.hid (DD.out.chg cO hb1)
                have IO := Lib.hid (II.out.chg cO hb1)
                have RO := Lib.hid rO
                have CO := Lib.hid (CC.out.trans cO)
                have TO := Lib.hid riiO
                have OO := Lib.hid oO
                clear oO riiO rO cO eO2 eO3
                cases tO
                · go_wp2
                  (try simp only [Exit.inBlock, Exit.then])
                  refine bodyPost_ret (results_tmp3 rfl _ _ _) rfl ?_
                  exact ⟨gv, cap, k, ps, gx, capx, m, xs, CT, rT, ccT, _, _, rfl, DO.out, IO.out, TO.out, hr64, hrcc, RO.out, by omega, CO.out⟩
                · by_cases hr0 : rT = 0
                  · have hrd : decide ((0 : Int) < (rT : Int)) = false := decide_eq_false (by omega)
                    have hrd2 : decide (0 < rT) = false := decide_eq_false (by omega)
                    have HR0 := Lib.hid hr0
                    clear hr0
                    go_wp2
                    (try simp only [Exit.inBlock, Exit.then])
                    refine bodyPost_ret (results_tmp3 rfl _ _ _) rfl ?_
                    exact ⟨gv, cap, k, ps, gx, capx, m, xs, CT, rT, ccT, _, _, rfl, DO.out, IO.out, TO.out, hr64, hrcc, RO.out, by omega, CO.out⟩
                  · have hrd : decide ((0 : Int) < (rT : Int)) = true := decide_eq_true (by omega)
                    have hrd2 : decide (0 < rT) = true := decide_eq_true (by omega)
                    obtain ⟨gu, cu, eu, _, _⟩ := OO.out.outer.form (by omega)
                    injection eu with eu1 eu2 eu3
                    subst eu1
                    obtain ⟨ad, B0, m0, d0, ea, k0, rw0⟩ := TO.out.at_ 0 (by omega)
                    injection ea with ea
                    subst ea
                    rw [addr0] at k0
                    have row0 := OO.out.row 0 (by omega)
                    have cell0 := OO.out.outer.cells (g := gu) rfl 0 (hT 0) (by rw [List.getElem?_map, List.getElem?_range (by omega)]; rfl)
                    rw [addr0, k0] at cell0
                    injection cell0 with cell0
                    have hm0 := rw0.len
                    rw [gl_range _ _ (by omega : 0 < rT)] at hm0
                    rw [← cell0, hm0] at row0
                    have hm64 := hts64 0 (by omega)
                    rw [hm0] at hm64
                    clear eu2 eu3
                    by_cases hz0 : m0 = 0
                    · have hmd : decide ((0 : Int) < (m0 : Int)) = false := decide_eq_false (by omega)
                      have hmd2 : decide (0 < m0) = false := decide_eq_false (by omega)
                      have HZ0 := Lib.hid hz0
                      have HRO := Lib.hid row0
                      have HC0 := Lib.hid cell0
                      have HM0 := Lib.hid hm0
                      clear hz0 row0 cell0 hm0
                      go_wp2
                      (try simp only [Exit.inBlock, Exit.then])
                      refine bodyPost_ret (results_tmp3 rfl _ _ _) rfl ?_
                      exact ⟨gv, cap, k, ps, gx, capx, m, xs, _, rT, ccT, _, _, rfl, DO.out, IO.out, TO.out, hr64, hrcc, RO.out, by omega, CO.out⟩
                    · have hmd : decide ((0 : Int) < (m0 : Int)) = true := decide_eq_true (by omega)
                      have hmd2 : decide (0 < m0) = true := decide_eq_true (by omega)
                      obtain ⟨g0, c0, e0, hg0lo, _⟩ := row0.form (by omega)
                      injection e0 with e01 e02 e03
                      subst e01
                      have zc := row0.cellAt 0 (by omega)
                      rw [ints_getElem? (by omega)] at zc
                      have zf := row0.frozenAt 0
                      obtain ⟨z, hz⟩ : ∃ z, gi (tsT 0) 0 = z := ⟨_, rfl⟩
                      rw [hz] at zc
                      obtain ⟨y, hy⟩ : ∃ y, IntKind.i64.wrap (z + 1) = y := ⟨_, rfl⟩
                      have hsto := fun (wq : World) (hq : Le wO wq) => (own_Le row0 hq).stored 0 (.int .i64 y)
                      have HRO := Lib.hid row0
                      have HC0 := Lib.hid cell0
                      have HM0 := Lib.hid hm0
                      have HSTO := Lib.hid hsto
                      clear e02 e03 row0 cell0 hm0 hsto hz
                      go_wp2
                      go_region
                      go_wp2
                      (try simp only [Exit.inBlock, Exit.then])
                      refine bodyPost_ret (results_tmp3 rfl _ _ _) rfl ?_
                      obtain ⟨oS, gS⟩ := HSTO.out wO.drew ((Le.refl wO).drew)
                      rw [ints_setU] at oS
                      have lD : Le wO wO.drew := (Le.refl wO).drew
                      have hgl := hg0lo
                      have gvl : gv < g0 := Nat.lt_of_lt_of_le (DB.out.own.lt gv rfl).2 hgl
                      have gxl : gx < g0 := Nat.lt_of_lt_of_le (IB.out.own.lt gx rfl).2 hgl
                      have hgg : g < g0 := by omega
                      have hwg : w.heap.size ≤ g0 := by have := CB.out.size; omega
                      have oM := (OO.out.le lD).mark (k := 0) (by omega) (by rw [← HC0.out]; exact gS) (ys := (tsT 0).set 0 y) (by rw [List.length_set]) (by rw [← HC0.out, List.length_set, HM0.out]; exact oS)
                      obtain ⟨_, _, eM, riiM⟩ := oM.reads (tt := (List.range rT).map _) (by simp) (fun j hj => gl_range _ _ hj)
                      injection eM with eM1 eM2 eM3
                      subst eM1
                      exact ⟨gv, cap, k, ps, gx, capx, m, xs, _, rT, ccT, _, _, rfl, (DO.out.le lD).kept gS gvl, (IO.out.le lD).kept gS gxl, riiM, hr64, hrcc, (RO.out.more lD).grown gS (fun q hq => by have : g0 = q := Option.some.inj hq; omega), by omega, (CO.out.more lD).row gS (fun q hq => by have : g0 = q := Option.some.inj hq; omega)⟩
      · have hxe : ((x6 : Int) == 0) = false := by rw [beq_eq_false_iff_ne]; omega
        clear hx0
        have hgrL := hgr
        have DB := D4
        have IB := I4
        have CB := C4
        have DD := D6
        have II := I6
        have RR := R6
        have CC := C6
        have UU := U6
        obtain ⟨rT, hT, tsT, hr64, hts64, oT⟩ := UU.out
        obtain ⟨CT, ccT, rfl, riiT⟩ := oT.reads (tt := (List.range rT).map tsT) (by simp) (fun j hj => gl_range _ _ hj)
        have hrcc := own_capN oT.outer
        have OT := Lib.hid oT
        have RT := Lib.hid riiT
        clear oT riiT
        go_wp2_with fail
        refine (odd_any _ _ _ _ _ _ _ 9 RR.out (by omega) (by omega) (by omega)).mono ?_; rintro e wO ⟨tO, rfl, rO, cO⟩
        have oO := OT.out.chg cO (.inr hgrL)
        obtain ⟨_, _, eO, riiO⟩ := oO.reads (tt := (List.range rT).map tsT) (by simp) (fun j hj => gl_range _ _ hj)
        injection eO with eO1 eO2 eO3
        subst eO1
        have DO := Lib.hid (DD.out.chg cO hb1)
        have IO := Lib.hid (II.out.chg cO hb1)
        have RO := Lib.hid rO
        have CO := Lib.hid (CC.out.trans cO)
        have TO := Lib.hid riiO
        have OO := Lib.hid oO
        clear oO riiO rO cO eO2 eO3
        cases tO
        · go_wp2
          (try simp only [Exit.inBlock, Exit.then])
          refine bodyPost_ret (results_tmp3 rfl _ _ _) rfl ?_
          exact ⟨gv, cap, k, ps, gx, capx, m, xs, CT, rT, ccT, _, _, rfl, DO.out, IO.out, TO.out, hr64, hrcc, RO.out, by omega, CO.out⟩
        · by_cases hr0 : rT = 0
          · have hrd : decide ((0 : Int) < (rT : Int)) = false := decide_eq_false (by omega)
            have hrd2 : decide (0 < rT) = false := decide_eq_false (by omega)
            have HR0 := Lib.hid hr0
            clear hr0
            go_wp2
            (try simp only [Exit.inBlock, Exit.then])
            refine bodyPost_ret (results_tmp3 rfl _ _ _) rfl ?_
            exact ⟨gv, cap, k, ps, gx, capx, m, xs, CT, rT, ccT, _, _, rfl, DO.out, IO.out, TO.out, hr64, hrcc, RO.out, by omega, CO.out⟩
          · have hrd : decide ((0 : Int) < (rT : Int)) = true := decide_eq_true (by omega)
            have hrd2 : decide (0 < rT) = true := decide_eq_true (by omega)
            obtain ⟨gu, cu, eu, _, _⟩ := OO.out.outer.form (by omega)
            injection eu with eu1 eu2 eu3
            subst eu1
            obtain ⟨ad, B0, m0, d0, ea, k0, rw0⟩ := TO.out.at_ 0 (by omega)
            injection ea with ea
            subst ea
            rw [addr0] at k0
            have row0 := OO.out.row 0 (by omega)
            have cell0 := OO.out.outer.cells (g := gu) rfl 0 (hT 0) (by rw [List.getElem?_map, List.getElem?_range (by omega)]; rfl)
            rw [addr0, k0] at cell0
            injection cell0 with cell0
            have hm0 := rw0.len
            rw [gl_range _ _ (by omega : 0 < rT)] at hm0
            rw [← cell0, hm0] at row0
            have hm64 := hts64 0 (by omega)
            rw [hm0] at hm64
            clear eu2 eu3
            by_cases hz0 : m0 = 0
            · have hmd : decide ((0 : Int) < (m0 : Int)) = false := decide_eq_false (by omega)
              have hmd2 : decide (0 < m0) = false := decide_eq_false (by omega)
              have HZ0 := Lib.hid hz0
              have HRO := Lib.hid row0
              have HC0 := Lib.hid cell0
              have HM0 := Lib.hid hm0
              clear hz0 row0 cell0 hm0
              go_wp2
              (try simp only [Exit.inBlock, Exit.then])
              refine bodyPost_ret (results_tmp3 rfl _ _ _) rfl ?_
              exact ⟨gv, cap, k, ps, gx, capx, m, xs, _, rT, ccT, _, _, rfl, DO.out, IO.out, TO.out, hr64, hrcc, RO.out, by omega, CO.out⟩
            · have hmd : decide ((0 : Int) < (m0 : Int)) = true := decide_eq_true (by omega)
              have hmd2 : decide (0 < m0) = true := decide_eq_true (by omega)
              obtain ⟨g0, c0, e0, hg0lo, _⟩ := row0.form (by omega)
              injection e0 with e01 e02 e03
              subst e01
              have zc := row0.cellAt 0 (by omega)
              rw [ints_getElem? (by omega)] at zc
              have zf := row0.frozenAt 0
              obtain ⟨z, hz⟩ : ∃ z, gi (tsT 0) 0 = z := ⟨_, rfl⟩
              rw [hz] at zc
              obtain ⟨y, hy⟩ : ∃ y, IntKind.i64.wrap (z + 1) = y := ⟨_, rfl⟩
              have hsto := fun (wq : World) (hq : Le wO wq) => (own_Le row0 hq).stored 0 (.int .i64 y)
              have HRO := Lib.hid row0
              have HC0 := Lib.hid cell0
              have HM0 := Lib.hid hm0
              have HSTO := Lib.hid hsto
              clear e02 e03 row0 cell0 hm0 hsto hz
              go_wp2
              go_region
              go_wp2
              (try simp only [Exit.inBlock, Exit.then])
              refine bodyPost_ret (results_tmp3 rfl _ _ _) rfl ?_
              obtain ⟨oS, gS⟩ := HSTO.out wO.drew ((Le.refl wO).drew)
              rw [ints_setU] at oS
              have lD : Le wO wO.drew := (Le.refl wO).drew
              have hgl := hg0lo
              have gvl : gv < g0 := Nat.lt_of_lt_of_le (DB.out.own.lt gv rfl).2 hgl
              have gxl : gx < g0 := Nat.lt_of_lt_of_le (IB.out.own.lt gx rfl).2 hgl
              have hgg : g < g0 := by omega
              have hwg : w.heap.size ≤ g0 := by have := CB.out.size; omega
              have oM := (OO.out.le lD).mark (k := 0) (by omega) (by rw [← HC0.out]; exact gS) (ys := (tsT 0).set 0 y) (by rw [List.length_set]) (by rw [← HC0.out, List.length_set, HM0.out]; exact oS)
              obtain ⟨_, _, eM, riiM⟩ := oM.reads (tt := (List.range rT).map _) (by simp) (fun j hj => gl_range _ _ hj)
              injection eM with eM1 eM2 eM3
              subst eM1
              exact ⟨gv, cap, k, ps, gx, capx, m, xs, _, rT, ccT, _, _, rfl, (DO.out.le lD).kept gS gvl, (IO.out.le lD).kept gS gxl, riiM, hr64, hrcc, (RO.out.more lD).grown gS (fun q hq => by have : g0 = q := Option.some.inj hq; omega), by omega, (CO.out.more lD).row gS (fun q hq => by have : g0 = q := Option.some.inj hq; omega)⟩
end Go.Proofs.YtmemenkioejdoaaDoor
