/- Small words for the laws of chapter 1: rows of items as a law makes them; appends in regions; lists that are alike. -/
import Derived.Test.YtoahjfofnaafaaaDoorWDrawC
import Derived.Test.YtoahjfofnaafaaaDoorWInt
namespace Go.Proofs.YtoahjfofnaafaaaDoor
open Go.RowKit

theorem DT.cells {b : Nat} {w : World} {gv cap k : Nat} {ts : List It} (d : DT b w gv cap k ts) : ∃ xs, w.ownsRow b 26 3 (.slice (some ⟨gv, 0, none⟩) k cap) k xs ∧ xs.length = k * 3 ∧ (∀ u ∈ xs, u.oneCell' = true) ∧
    ∀ j, j < k → ∃ B m c, xs[j * 3]? = some (.int .i64 (gm ts j).1) ∧ xs[j * 3 + 1]? = some (.slice B m c) ∧ xs[j * 3 + 2]? = some (.int .i64 (gm ts j).2.2) ∧ RP w B m (gm ts j).2.1 := by
  obtain ⟨h, m⟩ := d.row
  obtain ⟨xs, o, hx⟩ := m.row
  have hall : ∀ j, j < k → ∃ B m c, xs[j * 3]? = some (.int .i64 (gm ts j).1) ∧ xs[j * 3 + 1]? = some (.slice B m c) ∧ xs[j * 3 + 2]? = some (.int .i64 (gm ts j).2.2) ∧ RP w B m (gm ts j).2.1 := fun j hj => by
    obtain ⟨h1, h2, h3⟩ := hx j hj
    obtain ⟨B, c, e, r⟩ := own_RP (m.parts j hj) (by have := m.small j hj; omega)
    rw [e] at h2
    exact ⟨B, _, c, h1, h2, h3, r⟩
  refine ⟨xs, o, o.1, fun u hu => ?_, hall⟩
  obtain ⟨i, hi⟩ := List.mem_iff_getElem?.1 hu
  have hl := (List.getElem?_eq_some_iff.1 hi).1
  rw [o.1] at hl
  obtain ⟨B, m, c, h1, h2, h3, _⟩ := hall (i / 3) (by omega)
  rcases (show i = i / 3 * 3 ∨ i = i / 3 * 3 + 1 ∨ i = i / 3 * 3 + 2 by omega) with e | e | e
  · rw [e, h1] at hi; injection hi with hi; subst hi; rfl
  · rw [e, h2] at hi; injection hi with hi; subst hi; rfl
  · rw [e, h3] at hi; injection hi with hi; subst hi; rfl
/-- a row of items of the call's own reads as these -/
theorem RM.of_row {w : World} {b : Nat} {v : Value} {n : Nat} {xs : List Value} {ts : List It} (o : w.ownsRow b 26 3 v n xs) (hl : ts.length = n) (hn : n ≤ 1048576)
    (hx : ∀ j, j < n → ∃ B m c, xs[j * 3]? = some (.int .i64 (gm ts j).1) ∧ xs[j * 3 + 1]? = some (.slice B m c) ∧ xs[j * 3 + 2]? = some (.int .i64 (gm ts j).2.2) ∧ RP w B m (gm ts j).2.1) : ∃ A c, v = .slice A n c ∧ RM w A n ts := by
  rcases o.2 with ⟨rfl, rfl⟩ | ⟨g, cap, cur, rfl, hb, hg, hn2, hcm, hs, ht⟩
  · exact ⟨none, 0, rfl, hl, by omega, fun j hj => absurd hj (by omega)⟩
  · refine ⟨_, _, rfl, hl, by omega, fun j hj => ?_⟩
    obtain ⟨B, m, c, h1, h2, h3, r⟩ := hx j hj
    have q1 := o.cells (g := g) rfl _ _ h1
    have q2 := o.cells (g := g) rfl _ _ h2
    have q3 := o.cells (g := g) rfl _ _ h3
    refine ⟨_, B, m, c, rfl, q1, ?_, ?_, r⟩
    · rw [addr0] at q2 ⊢; exact q2
    · rw [addr0] at q3 ⊢; exact q3
theorem RM.snoc_cells {w : World} {xs : List Value} {ts : List It} {k : Nat} (hl : ts.length = k) (hxl : xs.length = k * 3) (hx : ∀ j, j < k → ∃ B m c, xs[j * 3]? = some (.int .i64 (gm ts j).1) ∧ xs[j * 3 + 1]? = some (.slice B m c) ∧ xs[j * 3 + 2]? = some (.int .i64 (gm ts j).2.2) ∧ RP w B m (gm ts j).2.1)
    {y mk : Int} {B : Option Addr} {m c : Nat} {ps : List (Int × Int)} (hp : RP w B m ps) :
    ∀ j, j < k + 1 → ∃ B' m' c', (xs ++ [.int .i64 y, .slice B m c, .int .i64 mk])[j * 3]? = some (.int .i64 (gm (ts ++ [(y, ps, mk)]) j).1) ∧ (xs ++ [.int .i64 y, .slice B m c, .int .i64 mk])[j * 3 + 1]? = some (.slice B' m' c') ∧ (xs ++ [.int .i64 y, .slice B m c, .int .i64 mk])[j * 3 + 2]? = some (.int .i64 (gm (ts ++ [(y, ps, mk)]) j).2.2) ∧ RP w B' m' (gm (ts ++ [(y, ps, mk)]) j).2.1 := by
  intro j hj
  by_cases e : j = k
  · subst e
    have e : gm (ts ++ [(y, ps, mk)]) j = (y, ps, mk) := by have := gm_snoc_at ts (y, ps, mk); rwa [hl] at this
    rw [e]
    refine ⟨B, m, c, ?_, ?_, ?_, hp⟩
    · rw [List.getElem?_append_right (by omega), hxl, Nat.sub_self]; rfl
    · rw [List.getElem?_append_right (by omega), hxl, show j * 3 + 1 - j * 3 = 1 by omega]; rfl
    · rw [List.getElem?_append_right (by omega), hxl, show j * 3 + 2 - j * 3 = 2 by omega]; rfl
  · obtain ⟨B', m', c', h1, h2, h3, r⟩ := hx j (by omega)
    rw [gm_snoc_lt (by omega)]
    refine ⟨B', m', c', ?_, ?_, ?_, r⟩
    · rw [List.getElem?_append_left (by omega)]; exact h1
    · rw [List.getElem?_append_left (by omega)]; exact h2
    · rw [List.getElem?_append_left (by omega)]; exact h3
theorem RM.take {w : World} {A : Option Addr} {n : Nat} {ts : List It} (h : RM w A n ts) {k : Nat} (hk : k ≤ n) : RM w A k (ts.take k) := by
  refine ⟨by rw [List.length_take, h.len]; omega, by have := h.max; omega, fun j hj => ?_⟩
  obtain ⟨ad, B, m, c, e, h1, h2, h3, r⟩ := h.at_ j (by omega)
  have e2 : gm (ts.take k) j = gm ts j := by
    unfold gm; rw [List.getD_eq_getElem?_getD, List.getD_eq_getElem?_getD, List.getElem?_take, if_pos hj]
  rw [e2]
  exact ⟨ad, B, m, c, e, h1, h2, h3, r⟩
theorem RM.nil (w : World) : RM w none 0 [] := ⟨rfl, by omega, fun k hk => absurd hk (by omega)⟩
/-- an append at a step of a region that draws its order, its guard says yes -/
theorem step_append_g {P : Program} {w : World} {ops : Array Oper} {o : Oper} {a : Act} {K : Act → World → Prop} {Q : Exit → Act → World → Prop} {E : Prop} (hw : Region.wanted o (yielded ops a.tmps) = true) (d : Option Tmp) (hd : o.dst = d) (s x : Operand) (t : TypeId)
    (ho : o.op = .call { callee := .builtin .append, args := #[s, x], argTypes := #[t, t] })
    (base : Nat) (e : TypeId) (i : TypeInfo) (z : Value) (size bytes : Nat) (ht : P.underlying t = some (.slice e)) (hi : P.info? e = some i) (hz : i.zero = some z)
    (hsize : i.size = size) (hby : i.bytes = bytes) (hzs : z.cells.size = size) (hsz : 0 < size)
    (v : Value) (n : Nat) (xs : List Value) (hs : a.eval s = v) (hown : w.ownsRow base e size v n xs)
    (ad : Addr) (m c : Nat) (news : List Value) (hx : a.eval x = .slice (some ad) m c) (hl : news.length = m * size) (hnews : ∀ j u, news[j]? = some u → w.cell? (ad.add j) = some u) (h1 : ∀ u ∈ news, u.oneCell' = true)
    (h63 : n + m ≤ maxLen) (hbytes : (n + m) * bytes ≤ 140737488355328) (hbase : base ≤ w.heap.size)
    (h : ∀ v' w', w'.ownsRow base e size v' (n + m) (xs ++ news) → w.grownBy w' v.ownBlock → (v' = .slice none 0 0 ↔ v = .slice none 0 0 ∧ m = 0) → K (a.put d v') w') :
    if Region.wanted o (yielded ops a.tmps) = true then Oper.wp P o a w K Q else E := by
  rw [if_pos hw]
  subst hd
  exact wp_append_own w s x t ho base e i z size bytes ht hi hz hsize hby hzs hsz v n xs hs hown ad m c news hx hl hnews h1 h63 hbytes hbase h
set_option maxRecDepth 20000 in
set_option maxHeartbeats 400000 in
theorem sameInts_any (A B : Option Addr) (n m c d : Nat) (xs ys : List Int) (w : World) (h : RI w A n xs) (h' : RI w B m ys) :
    Calls Tryd.prog 34 #[.slice A n c, .slice B m d] w fun e w' => e = .returned (.bool (eqI xs ys)) ∧ ∃ q, w' = w.drewN q := by
  have hm := h.max
  have HL := Lib.hid h.len
  have HC := Lib.hid h.at_
  have HL2 := Lib.hid h'.len
  have HC2 := Lib.hid h'.at_
  clear h h'
  by_cases hnm : n = m
  · subst hnm
    go_enter Tryd.func34, Tryd.ntmps34
    go_wp2
    go_loopw [5] (fun i wr => ∃ k : Nat, k ≤ n ∧ i = .int .i64 k ∧ (∃ q, wr = w.drewN q) ∧ AllTo (fun j => gi xs j == gi ys j) k) (fun i _ => n - (intOf i).toNat)
    case atStart => exact ⟨0, Nat.zero_le _, rfl, ⟨0, rfl⟩, AllTo.zero _⟩
    case round =>
      obtain ⟨k, hk, rfl, ⟨q, rfl⟩, hin⟩ := hrel
      by_cases hlt : k < n
      · obtain ⟨ad, rfl, hcell⟩ := HC.out k hlt
        obtain ⟨ad2, rfl, hcell2⟩ := HC2.out k hlt
        by_cases heq : gi xs k = gi ys k
        · have hb : (gi xs k != gi ys k) = false := by simp [heq]
          have HE := Lib.hid heq
          clear heq
          go_wp2
          go_quiet (fail)
          go_wp2
          go_roundw
          case rel => exact ⟨k + 1, by omega, by go_num, ⟨_, rfl⟩, hin.succ (by simpa using HE.out)⟩
          case measure => simp [intOf]; omega
        · have hb : (gi xs k != gi ys k) = true := by simp [heq]
          have HE := Lib.hid heq
          clear heq
          go_wp2
          go_quiet (fail)
          go_wp2
          go_ret
          refine ⟨ret_bool ?_, _, World.drewN_drewN _ _ _⟩
          have : xs ≠ ys := fun e => HE.out (by rw [e])
          simp [eqI, this]
      · go_wp2
        go_ret
        refine ⟨ret_bool ?_, q, rfl⟩
        have : xs = ys := ext_gi (by rw [HL.out, HL2.out]) fun j hj => by simpa using hin.at_ hlt (by rw [← HL.out]; exact hj)
        simp [eqI, this]
  · have hne : ((n : Int) != (m : Int)) = true := by rw [bne_iff_ne]; omega
    go_enter Tryd.func34, Tryd.ntmps34
    go_wp2
    go_ret
    refine ⟨ret_bool ?_, 0, rfl⟩
    have : xs ≠ ys := fun e => hnm (by rw [← HL.out, ← HL2.out, e])
    simp [eqI, this]
end Go.Proofs.YtoahjfofnaafaaaDoor
