/- Walks on slices of items: szItemS, toItemS, eqItemS. -/
import Derived.Test.YtoahjfofnaafaaaDoorWPPart
import Derived.Test.YtoahjfofnaafaaaDoorWUpP
import Derived.Test.YtoahjfofnaafaaaDoorWChg
import Derived.Test.YtoahjfofnaafaaaDoorPPerm
namespace Go.Proofs.YtoahjfofnaafaaaDoor
open Go.RowKit

abbrev It := Int × List (Int × Int) × Int
/-- the k-th item of a list -/
def gm (ts : List It) (k : Nat) : It := ts.getD k (0, [], 0)
theorem gm_getElem? {xs : List It} {k : Nat} (h : k < xs.length) : xs[k]? = some (gm xs k) := by
  unfold gm; rw [List.getD_eq_getElem?_getD, List.getElem?_eq_getElem h]; simp
theorem gm_mem {xs : List It} {k : Nat} (h : k < xs.length) : gm xs k ∈ xs := List.mem_of_getElem? (gm_getElem? h)
theorem ext_gm {xs ys : List It} (hl : xs.length = ys.length) (h : ∀ k, k < xs.length → gm xs k = gm ys k) : xs = ys := by
  apply List.ext_getElem?
  intro k
  by_cases hk : k < xs.length
  · rw [gm_getElem? hk, gm_getElem? (by omega), h k hk]
  · rw [List.getElem?_eq_none (by omega), List.getElem?_eq_none (by omega)]

/-- the slice value '.slice A n c' reads as these items -/
structure RM (w : World) (A : Option Addr) (n : Nat) (ts : List It) : Prop where
  len : ts.length = n
  max : n ≤ 9223372036854775807
  at_ : ∀ k, k < n → ∃ ad B m c, A = some ad ∧ w.cell? (ad.add (k * 3)) = some (.int .i64 (gm ts k).1) ∧ w.cell? ⟨(ad.add (k * 3)).block, (ad.add (k * 3)).off + 1, none⟩ = some (.slice B m c) ∧ w.cell? ⟨(ad.add (k * 3)).block, (ad.add (k * 3)).off + 2, none⟩ = some (.int .i64 (gm ts k).2.2) ∧ RP w B m (gm ts k).2.1
theorem RM.le {w w' : World} {A : Option Addr} {n : Nat} {ts : List It} (h : RM w A n ts) (hb : Le w w') : RM w' A n ts :=
  ⟨h.len, h.max, fun k hk => let ⟨ad, B, m, c, e, h1, h2, h3, h4⟩ := h.at_ k hk; ⟨ad, B, m, c, e, hb.cell h1, hb.cell h2, hb.cell h3, h4.le hb⟩⟩

/-- how many parts the first k hold together -/
def totM (ts : List It) (k : Nat) : Int := sumTo (fun j => ((gm ts j).2.1.length : Int)) k
theorem totM_succ (ts : List It) (k : Nat) : totM ts (k + 1) = totM ts k + ((gm ts k).2.1.length : Int) := rfl
theorem totM_mono (ts : List It) {j k : Nat} (h : j ≤ k) : totM ts j ≤ totM ts k := by
  induction k with
  | zero => rw [show j = 0 by omega]; exact Int.le_refl _
  | succ k ih =>
    rcases Nat.lt_or_ge k j with h1 | h1
    · rw [show j = k + 1 by omega]; exact Int.le_refl _
    · have := ih h1; rw [totM_succ]; omega
theorem totM_nonneg (ts : List It) (k : Nat) : 0 ≤ totM ts k := by
  have := totM_mono ts (Nat.zero_le k); simpa [totM, sumTo] using this
theorem totM_one (ts : List It) {j k : Nat} (h : j < k) : ((gm ts j).2.1.length : Int) ≤ totM ts k := by
  have h1 := totM_mono ts (show j + 1 ≤ k from h)
  have h2 := totM_nonneg ts j
  rw [totM_succ] at h1; omega

set_option maxRecDepth 20000 in
set_option maxHeartbeats 400000 in
theorem szItem_ok (y : Int) (A : Option Addr) (n c : Nat) (mk : Int) (left : Int) (w : World) (h1 : left ≤ 1048576) (hn : (n : Int) ≤ left) :
    Calls Tryd.prog 17 #[.agg #[.int .i64 y, .slice A n c, .int .i64 mk], .int .i64 left] w fun e w' => e = .returned (.int .i64 (left - n)) ∧ Le w w' := by
  go_enter Tryd.func17, Tryd.ntmps17
  go_wp2_with (go_at_call 52; refine (szPartS_ok _ _ _ _ _ h1 hn).mono ?_; rintro e w' ⟨rfl, rfl⟩)
  go_ret
  exact ⟨rfl, (Le.refl _).alloc _⟩
set_option maxRecDepth 20000 in
set_option maxHeartbeats 400000 in
theorem szItem_no (y : Int) (A : Option Addr) (n c : Nat) (mk : Int) (left : Int) (w : World) (hm : n ≤ 9223372036854775807) (h0 : 0 ≤ left) (hn : left < (n : Int)) :
    Calls Tryd.prog 17 #[.agg #[.int .i64 y, .slice A n c, .int .i64 mk], .int .i64 left] w fun e w' => e = .returned (.int .i64 (-1)) ∧ Le w w' := by
  go_enter Tryd.func17, Tryd.ntmps17
  go_wp2_with (go_at_call 52; refine (szPartS_no _ _ _ _ _ hm h0 hn).mono ?_; rintro e w' ⟨rfl, rfl⟩)
  go_ret
  exact ⟨rfl, (Le.refl _).alloc _⟩


set_option maxRecDepth 20000 in
set_option maxHeartbeats 1000000 in
theorem toItem_any (y : Int) (A : Option Addr) (n c : Nat) (mk : Int) (ps : List (Int × Int)) (w : World) (h : RP w A n ps) (hn : n ≤ 1048576) :
    Calls Tryd.prog 19 #[.agg #[.int .i64 y, .slice A n c, .int .i64 mk]] w fun e w' => ∃ g, e = .returned (.agg #[.int .i64 y, .slice (some ⟨g, 0, none⟩) n n, .int .i64 mk]) ∧ w.heap.size ≤ g ∧ BlkPart w' g ps ∧ Le w w' := by
  have hc : ∀ w', Le w w' → RP w' A n ps := fun w' l => h.le l
  have HC := Lib.hid hc
  clear h hc
  go_enter Tryd.func19, Tryd.ntmps19
  go_wp2_with fail
  refine (toPartS_any _ _ _ _ _ (HC.out _ ((((Le.refl _).alloc _).alloc _).alloc _)) hn).mono ?_; rintro e w1 ⟨rfl, _, b1, l1⟩
  have k1 : Blk w1 w.heap.size 35 #[.int .i64 y, .slice A n c, .int .i64 mk] := Blk.le (Blk.alloc (Blk.alloc (by simpa using Blk.new w _ _) _) _) l1
  have k2 : Blk w1 (w.heap.size + 1) 26 #[.int .i64 0, .slice none 0 0, .int .i64 0] := (Blk.alloc (by simpa using Blk.new (w.alloc _) _ _) _).le l1
  have k3 : Blk w1 (w.heap.size + 1 + 1) 26 #[.int .i64 y, .slice none 0 0, .int .i64 0] := Blk.le (by simpa using Blk.new ((w.alloc _).alloc _) _ _) l1
  have a0 := k3.cell 0
  have a1 := k3.cell 1
  have a2 := k3.cell 2
  have z0 := k3.frozen 0
  have z1 := k3.frozen 1
  have z2 := k3.frozen 2
  have e0 := k2.cell 0
  have e1 := k2.cell 1
  have e2 := k2.cell 2
  have y0 := k2.frozen 0
  have y1 := k2.frozen 1
  have y2 := k2.frozen 2
  have q2 := k1.cell 2
  have hsz : w.heap.size + 1 + 1 + 1 ≤ w1.heap.size := by have := l1.size; simp at this; omega
  have B1 := Lib.hid b1
  have L1 := Lib.hid l1
  clear b1 l1 k1 k2 k3
  simp at a0 a1 a2 e0 e1 e2 q2
  go_wp2
  have hB : BlkPart w1 (w.heap.size + 1 + 1 + 1) ps := by simpa using B1.out
  refine bodyPost_ret (v := .agg #[.int .i64 y, .slice (some ⟨w.heap.size + 1 + 1 + 1, 0, none⟩) n n, .int .i64 mk]) (by simp [results, Tryd.results19, go_sem, e0, e1, e2]) rfl ⟨_, rfl, by omega, ?_, ?_⟩
  · have f : ∀ {wr : World}, BlkPart wr (w.heap.size + 1 + 1 + 1) ps → ∀ (a b : Nat) (u : Value), a < w.heap.size + 1 + 1 + 1 → BlkPart (wr.setCell ⟨a, b, none⟩ u) (w.heap.size + 1 + 1 + 1) ps := fun {wr} hb a b u ha => Blk.far hb (by show w.heap.size + 1 + 1 + 1 ≠ a; omega) u
    exact f (f (f (f (f hB _ _ _ (by omega)) _ _ _ (by omega)) _ _ _ (by omega)) _ _ _ (by omega)) _ _ _ (by omega)
  · have l0 := ((((Le.refl w).alloc (.cells #[.int .i64 y, .slice A n c, .int .i64 mk] 35)).alloc (.cells #[.int .i64 0, .slice none 0 0, .int .i64 0] 26)).alloc (.cells #[.int .i64 y, .slice none 0 0, .int .i64 0] 26)).trans L1.out
    have f : ∀ {wr : World}, Le w wr → ∀ (a b : Nat) (u : Value), w.heap.size ≤ a → Le w (wr.setCell ⟨a, b, none⟩ u) := fun {wr} hl a b u ha => hl.setCell ha u
    exact f (f (f (f (f l0 _ _ _ (by omega)) _ _ _ (by omega)) _ _ _ (by omega)) _ _ _ (by omega)) _ _ _ (by omega)

theorem infoItem : (Tryd.prog.info? 26).map (fun i => (i.zero, i.size, i.bytes)) = some (some (.agg #[.int .i64 0, .slice none 0 0, .int .i64 0]), 3, 40) := by kernel_rfl

theorem made_get3 (a b d : Value) (n j : Nat) (hj : j < n) : (madeCells #[a, b, d] n)[j]? = some (if j % 3 = 0 then a else if j % 3 = 1 then b else d) := by
  have h2 : j % 3 < 3 := Nat.mod_lt _ (by omega)
  have : j % 3 = 0 ∨ j % 3 = 1 ∨ j % 3 = 2 := by omega
  rcases this with h | h | h <;> simp [madeCells, hj, h]


set_option maxRecDepth 20000 in
set_option maxHeartbeats 1000000 in
theorem eqItem_self (y : Int) (A B : Option Addr) (n m c d : Nat) (mk : Int) (ps : List (Int × Int)) (w : World) (h : RP w A n ps) (h' : RP w B m ps) :
    Calls Tryd.prog 20 #[.agg #[.int .i64 y, .slice A n c, .int .i64 mk], .agg #[.int .i64 y, .slice B m d, .int .i64 mk]] w fun e w' => e = .returned (.bool true) ∧ Le w w' := by
  have l0 : Le w ((w.alloc (.cells #[.int .i64 y, .slice A n c, .int .i64 mk] 26)).alloc (.cells #[.int .i64 y, .slice B m d, .int .i64 mk] 26)) := ((Le.refl w).alloc _).alloc _
  have hq := eqPartS_self A B n m c d ps _ (h.le l0) (h'.le l0)
  have k1 : Blk ((w.alloc (.cells #[.int .i64 y, .slice A n c, .int .i64 mk] 26)).alloc (.cells #[.int .i64 y, .slice B m d, .int .i64 mk] 26)) w.heap.size 26 #[.int .i64 y, .slice A n c, .int .i64 mk] := (Blk.new _ _ _).alloc _
  have k2 : Blk ((w.alloc (.cells #[.int .i64 y, .slice A n c, .int .i64 mk] 26)).alloc (.cells #[.int .i64 y, .slice B m d, .int .i64 mk] 26)) (w.heap.size + 1) 26 #[.int .i64 y, .slice B m d, .int .i64 mk] := by
    have := Blk.new (w.alloc (.cells #[.int .i64 y, .slice A n c, .int .i64 mk] 26)) 26 #[.int .i64 y, .slice B m d, .int .i64 mk]
    simpa using this
  have hb1 : (y != y) = false := by simp
  have hb2 : (mk != mk) = false := by simp
  have HQ := Lib.hid hq
  have K1 := Lib.hid k1
  have K2 := Lib.hid k2
  have L0 := Lib.hid l0
  clear h h' hq k1 k2 l0
  go_enter Tryd.func20, Tryd.ntmps20
  go_wp2_with fail
  refine HQ.out.mono ?_; rintro e w1 ⟨rfl, l1⟩
  have a1 := (K1.out.le l1).cell 2
  have a2 := (K2.out.le l1).cell 2
  have L1 := Lib.hid l1
  clear l1
  simp at a1 a2
  go_wp2
  go_ret
  exact ⟨rfl, L0.out.trans L1.out⟩
end Go.Proofs.YtoahjfofnaafaaaDoor
