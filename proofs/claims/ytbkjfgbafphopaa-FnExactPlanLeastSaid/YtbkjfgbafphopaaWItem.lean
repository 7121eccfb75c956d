/- Walks on slices of items: szItemS, toItemS, eqItemS. -/
import Derived.Test.YtbkjfgbafphopaaWPPart
import Derived.Test.YtbkjfgbafphopaaWUpP
import Derived.Test.YtbkjfgbafphopaaWChg
import Derived.Test.YtbkjfgbafphopaaPPerm
namespace Go.Proofs.Ytbkjfgbafphopaa
open Go.RowKit

abbrev It := Int × List (Int × Int) × Int
/-- the k-th item of a list -/
def gm (ts : List It) (k : Nat) : It := ts.getD k (0, [], 0)
theorem gm_getElem? {xs : List It} {k : Nat} (h : k < xs.length) : xs[k]? = some (gm xs k) := by
  unfold gm; rw [List.getD_eq_getElem?_getD, List.getElem?_eq_getElem h]; simp
theorem gm_mem {xs : List It} {k : Nat} (h : k < xs.length) : gm xs k ∈ xs := List.mem_of_getElem? (gm_getElem? h)
theorem ext_gm {xs ys : List It} (hl : xs.length = ys.length) (h : ∀ k, k < xs.length → gm xs k = gm ys k) : xs = ys := by
  apply List.ext_getElem?
  intro k
  by_cases hk : k < xs.length
  · rw [gm_getElem? hk, gm_getElem? (by omega), h k hk]
  · rw [List.getElem?_eq_none (by omega), List.getElem?_eq_none (by omega)]

/-- the slice value '.slice A n c' reads as these items -/
structure RM (w : World) (A : Option Addr) (n : Nat) (ts : List It) : Prop where
  len : ts.length = n
  max : n ≤ 9223372036854775807
  at_ : ∀ k, k < n → ∃ ad B m c, A = some ad ∧ w.cell? (ad.add (k * 3)) = some (.int .i64 (gm ts k).1) ∧ w.cell? ⟨(ad.add (k * 3)).block, (ad.add (k * 3)).off + 1, none⟩ = some (.slice B m c) ∧ w.cell? ⟨(ad.add (k * 3)).block, (ad.add (k * 3)).off + 2, none⟩ = some (.int .i64 (gm ts k).2.2) ∧ RP w B m (gm ts k).2.1
theorem RM.le {w w' : World} {A : Option Addr} {n : Nat} {ts : List It} (h : RM w A n ts) (hb : Le w w') : RM w' A n ts :=
  ⟨h.len, h.max, fun k hk => let ⟨ad, B, m, c, e, h1, h2, h3, h4⟩ := h.at_ k hk; ⟨ad, B, m, c, e, hb.cell h1, hb.cell h2, hb.cell h3, h4.le hb⟩⟩

/-- how many parts the first k hold together -/
def totM (ts : List It) (k : Nat) : Int := sumTo (fun j => ((gm ts j).2.1.length : Int)) k
theorem totM_succ (ts : List It) (k : Nat) : totM ts (k + 1) = totM ts k + ((gm ts k).2.1.length : Int) := rfl
theorem totM_mono (ts : List It) {j k : Nat} (h : j ≤ k) : totM ts j ≤ totM ts k := by
  induction k with
  | zero => rw [show j = 0 by omega]; exact Int.le_refl _
  | succ k ih =>
    rcases Nat.lt_or_ge k j with h1 | h1
    · rw [show j = k + 1 by omega]; exact Int.le_refl _
    · have := ih h1; rw [totM_succ]; omega
theorem totM_nonneg (ts : List It) (k : Nat) : 0 ≤ totM ts k := by
  have := totM_mono ts (Nat.zero_le k); simpa [totM, sumTo] using this
theorem totM_one (ts : List It) {j k : Nat} (h : j < k) : ((gm ts j).2.1.length : Int) ≤ totM ts k := by
  have h1 := totM_mono ts (show j + 1 ≤ k from h)
  have h2 := totM_nonneg ts j
  rw [totM_succ] at h1; omega

set_option maxHeartbeats 400000 in
theorem szItem_ok (y : Int) (A : Option Addr) (n c : Nat) (mk : Int) (left : Int) (w : World) (h1 : left ≤ 1048576) (hn : (n : Int) ≤ left) :
    Calls Try.prog 47 #[.agg #[.int .i64 y, .slice A n c, .int .i64 mk], .int .i64 left] w fun e w' => e = .returned (.int .i64 (left - n)) ∧ Le w w' := by
  go_enter Try.func47, Try.ntmps47
  go_wp2_with (go_at_call 65; refine (szPartS_ok _ _ _ _ _ h1 hn).mono ?_; rintro e w' ⟨rfl, rfl⟩)
  go_ret
  exact ⟨rfl, (Le.refl _).alloc _⟩
set_option maxHeartbeats 400000 in
theorem szItem_no (y : Int) (A : Option Addr) (n c : Nat) (mk : Int) (left : Int) (w : World) (hm : n ≤ 9223372036854775807) (h0 : 0 ≤ left) (hn : left < (n : Int)) :
    Calls Try.prog 47 #[.agg #[.int .i64 y, .slice A n c, .int .i64 mk], .int .i64 left] w fun e w' => e = .returned (.int .i64 (-1)) ∧ Le w w' := by
  go_enter Try.func47, Try.ntmps47
  go_wp2_with (go_at_call 65; refine (szPartS_no _ _ _ _ _ hm h0 hn).mono ?_; rintro e w' ⟨rfl, rfl⟩)
  go_ret
  exact ⟨rfl, (Le.refl _).alloc _⟩

set_option maxHeartbeats 1000000 in
theorem szItemS_ok (A : Option Addr) (n c : Nat) (left : Int) (ts : List It) (w : World) (h : RM w A n ts) (h1 : left ≤ 1048576) (hz : (n : Int) + totM ts n ≤ left) :
    Calls Try.prog 13 #[.slice A n c, .int .i64 left] w fun e w' => e = .returned (.int .i64 (left - n - totM ts n)) ∧ Le w w' := by
  have HC := Lib.hid h.at_
  have h0 := totM_nonneg ts n
  clear h
  go_enter Try.func13, Try.ntmps13
  go_wp2
  go_loopw [1, 5] (fun v i wr => ∃ k : Nat, k ≤ n ∧ i = .int .i64 k ∧ v = .int .i64 (left - n - totM ts k) ∧ Le w wr) (fun _ i _ => n - (intOf i).toNat)
  case atStart => exact ⟨0, Nat.zero_le _, rfl, by simp [totM, sumTo], Le.refl _⟩
  case round =>
    obtain ⟨k, hk, rfl, rfl, hle⟩ := hrel
    by_cases hlt : k < n
    · obtain ⟨ad, B, m, d, rfl, c1, c2, c3, hr⟩ := HC.out k hlt
      have d1 := hle.cell c1
      have d2 := hle.cell c2
      have d3 := hle.cell c3
      have t1 := totM_mono ts (show k + 1 ≤ n from hlt)
      have t2 := totM_nonneg ts k
      have t3 := totM_succ ts k
      rw [hr.len] at t3
      have t4 : (m : Int) ≤ left - n - totM ts k := by omega
      have t5 : left - n - totM ts k ≤ 1048576 := by omega
      have T3 := Lib.hid t3
      have HLE := Lib.hid hle
      clear c1 c2 c3 hr t3 hle
      go_wp2_with fail
      refine (szItem_ok _ _ _ _ _ _ _ t5 t4).mono ?_; rintro e w1 ⟨rfl, l1⟩
      have L1 := Lib.hid l1
      clear l1
      go_wp2
      go_roundw
      case rel => exact ⟨k + 1, by omega, by go_num, by rw [T3.out]; exact congrArg _ (by omega), HLE.out.trans L1.out⟩
      case measure => simp [intOf]; omega
    · obtain rfl : k = n := by omega
      go_wp2
      go_ret
      exact ⟨rfl, hle⟩

set_option maxHeartbeats 1000000 in
theorem szItemS_no (A : Option Addr) (n c : Nat) (left : Int) (ts : List It) (w : World) (h : RM w A n ts) (h0 : 0 ≤ left) (h1 : left ≤ 1048576) (hz : left < (n : Int) + totM ts n) :
    Calls Try.prog 13 #[.slice A n c, .int .i64 left] w fun e w' => e = .returned (.int .i64 (-1)) ∧ Le w w' := by
  have hm := h.max
  have HC := Lib.hid h.at_
  clear h
  by_cases hn : (n : Int) ≤ left
  · go_enter Try.func13, Try.ntmps13
    go_wp2
    go_loopw [1, 5] (fun v i wr => ∃ k : Nat, k ≤ n ∧ i = .int .i64 k ∧ v = .int .i64 (left - n - totM ts k) ∧ (n : Int) + totM ts k ≤ left ∧ Le w wr) (fun _ i _ => n - (intOf i).toNat)
    case atStart => exact ⟨0, Nat.zero_le _, rfl, by simp [totM, sumTo], by simp [totM, sumTo]; omega, Le.refl _⟩
    case round =>
      obtain ⟨k, hk, rfl, rfl, hz2, hle⟩ := hrel
      by_cases hlt : k < n
      · obtain ⟨ad, B, m, d, rfl, c1, c2, c3, hr⟩ := HC.out k hlt
        have d1 := hle.cell c1
        have d2 := hle.cell c2
        have d3 := hle.cell c3
        have t2 := totM_nonneg ts k
        have t3 := totM_succ ts k
        have hmm := hr.max
        rw [hr.len] at t3
        have T3 := Lib.hid t3
        have HLE := Lib.hid hle
        clear c1 c2 c3 hr t3 hle
        by_cases t4 : (m : Int) ≤ left - n - totM ts k
        · have t5 : left - n - totM ts k ≤ 1048576 := by omega
          go_wp2_with fail
          refine (szItem_ok _ _ _ _ _ _ _ t5 t4).mono ?_; rintro e w1 ⟨rfl, l1⟩
          have L1 := Lib.hid l1
          clear l1
          go_wp2
          go_roundw
          case rel => exact ⟨k + 1, by omega, by go_num, by rw [T3.out]; exact congrArg _ (by omega), by rw [T3.out]; omega, HLE.out.trans L1.out⟩
          case measure => simp [intOf]; omega
        · have t5 : 0 ≤ left - n - totM ts k := by omega
          have t6 : left - n - totM ts k < (m : Int) := by omega
          go_wp2_with fail
          refine (szItem_no _ _ _ _ _ _ _ hmm t5 t6).mono ?_; rintro e w1 ⟨rfl, l1⟩
          have L1 := Lib.hid l1
          clear l1
          go_wp2
          go_ret
          exact ⟨rfl, HLE.out.trans L1.out⟩
      · obtain rfl : k = n := by omega
        exfalso; omega
  · go_enter Try.func13, Try.ntmps13
    go_wp2
    go_ret
    exact ⟨rfl, Le.refl _⟩

set_option maxHeartbeats 1000000 in
theorem toItem_any (y : Int) (A : Option Addr) (n c : Nat) (mk : Int) (ps : List (Int × Int)) (w : World) (h : RP w A n ps) (hn : n ≤ 1048576) :
    Calls Try.prog 49 #[.agg #[.int .i64 y, .slice A n c, .int .i64 mk]] w fun e w' => ∃ g, e = .returned (.agg #[.int .i64 y, .slice (some ⟨g, 0, none⟩) n n, .int .i64 mk]) ∧ w.heap.size ≤ g ∧ BlkPart w' g ps ∧ Le w w' := by
  have hc : ∀ w', Le w w' → RP w' A n ps := fun w' l => h.le l
  have HC := Lib.hid hc
  clear h hc
  go_enter Try.func49, Try.ntmps49
  go_wp2_with fail
  refine (toPartS_any _ _ _ _ _ (HC.out _ ((((Le.refl _).alloc _).alloc _).alloc _)) hn).mono ?_; rintro e w1 ⟨rfl, _, b1, l1⟩
  have k1 : Blk w1 w.heap.size 63 #[.int .i64 y, .slice A n c, .int .i64 mk] := Blk.le (Blk.alloc (Blk.alloc (by simpa using Blk.new w _ _) _) _) l1
  have k2 : Blk w1 (w.heap.size + 1) 67 #[.int .i64 0, .slice none 0 0, .int .i64 0] := (Blk.alloc (by simpa using Blk.new (w.alloc _) _ _) _).le l1
  have k3 : Blk w1 (w.heap.size + 1 + 1) 67 #[.int .i64 y, .slice none 0 0, .int .i64 0] := Blk.le (by simpa using Blk.new ((w.alloc _).alloc _) _ _) l1
  have a0 := k3.cell 0
  have a1 := k3.cell 1
  have a2 := k3.cell 2
  have z0 := k3.frozen 0
  have z1 := k3.frozen 1
  have z2 := k3.frozen 2
  have e0 := k2.cell 0
  have e1 := k2.cell 1
  have e2 := k2.cell 2
  have y0 := k2.frozen 0
  have y1 := k2.frozen 1
  have y2 := k2.frozen 2
  have q2 := k1.cell 2
  have hsz : w.heap.size + 1 + 1 + 1 ≤ w1.heap.size := by have := l1.size; simp at this; omega
  have B1 := Lib.hid b1
  have L1 := Lib.hid l1
  clear b1 l1 k1 k2 k3
  simp at a0 a1 a2 e0 e1 e2 q2
  go_wp2
  have hB : BlkPart w1 (w.heap.size + 1 + 1 + 1) ps := by simpa using B1.out
  refine bodyPost_ret (v := .agg #[.int .i64 y, .slice (some ⟨w.heap.size + 1 + 1 + 1, 0, none⟩) n n, .int .i64 mk]) (by simp [results, Try.results49, go_sem, e0, e1, e2]) rfl ⟨_, rfl, by omega, ?_, ?_⟩
  · have f : ∀ {wr : World}, BlkPart wr (w.heap.size + 1 + 1 + 1) ps → ∀ (a b : Nat) (u : Value), a < w.heap.size + 1 + 1 + 1 → BlkPart (wr.setCell ⟨a, b, none⟩ u) (w.heap.size + 1 + 1 + 1) ps := fun {wr} hb a b u ha => Blk.far hb (by show w.heap.size + 1 + 1 + 1 ≠ a; omega) u
    exact f (f (f (f (f hB _ _ _ (by omega)) _ _ _ (by omega)) _ _ _ (by omega)) _ _ _ (by omega)) _ _ _ (by omega)
  · have l0 := ((((Le.refl w).alloc (.cells #[.int .i64 y, .slice A n c, .int .i64 mk] 63)).alloc (.cells #[.int .i64 0, .slice none 0 0, .int .i64 0] 67)).alloc (.cells #[.int .i64 y, .slice none 0 0, .int .i64 0] 67)).trans L1.out
    have f : ∀ {wr : World}, Le w wr → ∀ (a b : Nat) (u : Value), w.heap.size ≤ a → Le w (wr.setCell ⟨a, b, none⟩ u) := fun {wr} hl a b u ha => hl.setCell ha u
    exact f (f (f (f (f l0 _ _ _ (by omega)) _ _ _ (by omega)) _ _ _ (by omega)) _ _ _ (by omega)) _ _ _ (by omega)

theorem infoItem : (Try.prog.info? 67).map (fun i => (i.zero, i.size, i.bytes)) = some (some (.agg #[.int .i64 0, .slice none 0 0, .int .i64 0]), 3, 40) := by kernel_rfl

theorem made_get3 (a b d : Value) (n j : Nat) (hj : j < n) : (madeCells #[a, b, d] n)[j]? = some (if j % 3 = 0 then a else if j % 3 = 1 then b else d) := by
  have h2 : j % 3 < 3 := Nat.mod_lt _ (by omega)
  have : j % 3 = 0 ∨ j % 3 = 1 ∨ j % 3 = 2 := by omega
  rcases this with h | h | h <;> simp [madeCells, hj, h]

/-- rows of the call's own that share nothing -/
structure RowsP (w : World) (lo k : Nat) (h : Nat → Value) (ts : List It) : Prop where
  row : ∀ j, j < k → w.ownsRow lo 73 2 (h j) (gm ts j).2.1.length (pairs (gm ts j).2.1)
  apart : ∀ i j, i < j → j < k → ∀ g, (h i).ownBlock = some g → (h j).ownBlock ≠ some g
theorem RowsP.le {w w' : World} {lo k : Nat} {h : Nat → Value} {ts : List It} (r : RowsP w lo k h ts) (hl : Le w w') : RowsP w' lo k h ts := ⟨fun j hj => own_Le (r.row j hj) hl, r.apart⟩
theorem RowsP.far {w : World} {lo k : Nat} {h : Nat → Value} {ts : List It} (r : RowsP w lo k h ts) {p : Addr} (hp : p.block < lo) (u : Value) : RowsP (w.setCell p u) lo k h ts :=
  ⟨fun j hj => own_far (r.row j hj) (fun hg => by have := ((r.row j hj).lt _ hg).1; omega) u, r.apart⟩
theorem RowsP.push {w w' : World} {lo k b : Nat} {h : Nat → Value} {ts : List It} (r : RowsP w lo k h ts) (hl : Le w w') (hlo : lo ≤ b) (hb : w.heap.size ≤ b) {take : Value} (hr : w'.ownsRow b 73 2 take (gm ts k).2.1.length (pairs (gm ts k).2.1)) :
    RowsP w' lo (k + 1) (fun j => if j = k then take else h j) ts := by
  refine ⟨fun j hj => ?_, fun i j hij hj g hi hjg => ?_⟩
  · by_cases e : j = k
    · subst e; simp only [if_true]; exact own_mono hr hlo
    · simp only [if_neg e]; exact own_Le (r.row j (by omega)) hl
  · simp only [if_neg (show ¬ i = k by omega)] at hi
    by_cases e : j = k
    · simp only [if_pos e] at hjg
      have h1 := ((r.row i (by omega)).lt g hi).2
      have h2 := (hr.lt g hjg).1
      omega
    · simp only [if_neg e] at hjg
      exact r.apart i j hij (by omega) g hi hjg

/-- items of the call's own in block g, their parts behind it and below hi -/
structure OwnM (w : World) (g hi n : Nat) (h : Nat → Value) (ts : List It) : Prop where
  blk : ∃ cs, Blk w g 67 cs ∧ cs.size = n * 3 ∧ ∀ j, j < n → cs[j * 3]? = some (.int .i64 (gm ts j).1) ∧ cs[j * 3 + 1]? = some (h j) ∧ cs[j * 3 + 2]? = some (.int .i64 (gm ts j).2.2)
  top : g < hi
  rows : RowsP w (g + 1) n h ts
  rtop : ∀ j, j < n → ∀ b, (h j).ownBlock = some b → b < hi
theorem OwnM.le {w w' : World} {g hi n : Nat} {h : Nat → Value} {ts : List It} (o : OwnM w g hi n h ts) (hl : Le w w') : OwnM w' g hi n h ts :=
  ⟨let ⟨cs, h1, h2⟩ := o.blk; ⟨cs, h1.le hl, h2⟩, o.top, o.rows.le hl, o.rtop⟩
theorem OwnM.reads {w : World} {g hi n : Nat} {h : Nat → Value} {ts : List It} (o : OwnM w g hi n h ts) (hl : ts.length = n) (hn : n ≤ 1048576) (hp : ∀ j, j < n → (gm ts j).2.1.length ≤ 1048576) : RM w (some ⟨g, 0, none⟩) n ts := by
  obtain ⟨cs, h1, h2, h3⟩ := o.blk
  refine ⟨hl, by omega, fun k hk => ?_⟩
  obtain ⟨q1, q2, q3⟩ := h3 k hk
  obtain ⟨B, c, e, hr⟩ := own_RP (o.rows.row k hk) (by have := hp k hk; omega)
  rw [e] at q2
  refine ⟨_, B, _, c, rfl, ?_, ?_, ?_, hr⟩
  · rw [addr0, h1.cell]; exact q1
  · rw [addr0]
    show w.cell? ⟨g, k * 3 + 1, none⟩ = _
    rw [h1.cell]; exact q2
  · rw [addr0]
    show w.cell? ⟨g, k * 3 + 2, none⟩ = _
    rw [h1.cell]; exact q3

set_option maxHeartbeats 2000000 in
theorem toItemS_any (A : Option Addr) (n c : Nat) (ts : List It) (w : World) (h : RM w A n ts) (hz : (n : Int) + totM ts n ≤ 1048576) :
    Calls Try.prog 15 #[.slice A n c] w fun e w' => e = .returned (.slice (some ⟨w.heap.size, 0, none⟩) n n) ∧ RM w' (some ⟨w.heap.size, 0, none⟩) n ts ∧ (∃ h, OwnM w' w.heap.size w'.heap.size n h ts) ∧ Le w w' := by
  have HL := Lib.hid h.len
  have HC := Lib.hid h.at_
  have h0 := totM_nonneg ts n
  clear h
  have hmk := run_mk (P := Try.prog) 25 67 (.agg #[.int .i64 0, .slice none 0 0, .int .i64 0]) 3 40 Try.underlying25 infoItem n (by omega) (by omega)
  go_enter Try.func15, Try.ntmps15
  go_wp2
  clear hmk
  go_loopw [4] (fun i wr => ∃ k : Nat, k ≤ n ∧ i = .int .i64 k ∧ Le w wr ∧ ∃ cs h, Blk wr w.heap.size 67 cs ∧ cs.size = n * 3 ∧ (∀ j, j < k → cs[j * 3]? = some (.int .i64 (gm ts j).1) ∧ cs[j * 3 + 1]? = some (h j) ∧ cs[j * 3 + 2]? = some (.int .i64 (gm ts j).2.2)) ∧ (∀ j, k ≤ j → j < n → cs[j * 3]? = some (.int .i64 0) ∧ cs[j * 3 + 1]? = some (.slice none 0 0) ∧ cs[j * 3 + 2]? = some (.int .i64 0)) ∧ RowsP wr (w.heap.size + 1) k h ts) (fun i _ => n - (intOf i).toNat)
  case atStart =>
    refine ⟨0, Nat.zero_le _, rfl, (Le.refl _).alloc _, _, fun _ => .slice none 0 0, Blk.new _ _ _, made_size _ _, fun j hj => absurd hj (by omega), fun j _ hj => ⟨?_, ?_, ?_⟩, fun j hj => absurd hj (by omega), fun i j _ hj => absurd hj (by omega)⟩
    · have := made_get3 (.int .i64 0) (.slice none 0 0) (.int .i64 0) (n * 3) (j * 3) (by omega)
      rw [if_pos (by omega)] at this; exact this
    · have := made_get3 (.int .i64 0) (.slice none 0 0) (.int .i64 0) (n * 3) (j * 3 + 1) (by omega)
      rw [if_neg (by omega), if_pos (by omega)] at this; exact this
    · have := made_get3 (.int .i64 0) (.slice none 0 0) (.int .i64 0) (n * 3) (j * 3 + 2) (by omega)
      rw [if_neg (by omega), if_neg (by omega)] at this; exact this
  case round =>
    obtain ⟨k, hk, rfl, hle, cs, h, hblk, hsz, hlow, hhigh, hrows⟩ := hrel
    by_cases hlt : k < n
    · obtain ⟨ad, B, m, d, rfl, hc1, hc2, hc3, hr⟩ := HC.out k hlt
      have c1 := hle.cell hc1
      have c2 := hle.cell hc2
      have c3 := hle.cell hc3
      have ht1 := totM_one ts hlt
      rw [hr.len] at ht1
      have hmb : m ≤ 1048576 := by omega
      have HR := Lib.hid (hr.le hle)
      have HRL := Lib.hid hr.len
      have HLO := Lib.hid hlow
      have HHI := Lib.hid hhigh
      have HB := Lib.hid hblk
      have HLE := Lib.hid hle
      have HRW := Lib.hid hrows
      clear hc1 hc2 hc3 hr hlow hhigh hblk hle ht1 hrows
      go_wp2_with fail
      refine (toItem_any _ _ _ _ _ _ _ HR.out hmb).mono ?_; rintro e w1 ⟨g, rfl, hg, bi, l1⟩
      have b1 := HB.out.le l1
      obtain ⟨q1, q2, q3⟩ := HHI.out k (Nat.le_refl _) hlt
      have d1 := (b1.cell (k * 3)).trans q1
      have d2 := (b1.cell (k * 3 + 1)).trans q2
      have d3 := (b1.cell (k * 3 + 2)).trans q3
      have z1 := b1.frozen (k * 3)
      have z2 := b1.frozen (k * 3 + 1)
      have z3 := b1.frozen (k * 3 + 2)
      have hgw := HB.out.lt
      have hro : w1.ownsRow wr.heap.size 73 2 (.slice (some ⟨g, 0, none⟩) m m) (gm ts k).2.1.length (pairs (gm ts k).2.1) := by
        have := Blk.ownP bi hg HRL.out (by omega)
        rw [HRL.out]; exact this
      have HPU := Lib.hid (HRW.out.push (b := wr.heap.size) l1 (by omega) (Nat.le_refl _) hro)
      have B1 := Lib.hid b1
      have L1 := Lib.hid l1
      clear b1 l1 bi q1 q2 q3 hro
      go_wp2
      go_roundw
      case rel =>
        refine ⟨k + 1, by omega, by go_num, (((HLE.out.trans L1.out).setCell (Nat.le_refl _) _).setCell (Nat.le_refl _) _).setCell (Nat.le_refl _) _, _, fun j => if j = k then .slice (some ⟨g, 0, none⟩) m m else h j, ((B1.out.set_ _ _).set_ _ _).set_ _ _, by simp [hsz], fun j hj => ?_, fun j hj hjn => ?_, ?_⟩
        · by_cases e : j = k
          · subst e
            refine ⟨?_, ?_, ?_⟩
            · rw [Array.getElem?_setIfInBounds, if_neg (by omega), Array.getElem?_setIfInBounds, if_neg (by omega), Array.getElem?_setIfInBounds, if_pos rfl, if_pos (by omega)]
            · rw [Array.getElem?_setIfInBounds, if_neg (by omega), Array.getElem?_setIfInBounds, if_pos rfl, if_pos (by simp; omega)]; simp
            · rw [Array.getElem?_setIfInBounds, if_pos rfl, if_pos (by simp; omega)]
          · obtain ⟨q1, q2, q3⟩ := HLO.out j (by omega)
            simp only [if_neg e]
            refine ⟨?_, ?_, ?_⟩
            · rw [Array.getElem?_setIfInBounds, if_neg (by omega), Array.getElem?_setIfInBounds, if_neg (by omega), Array.getElem?_setIfInBounds, if_neg (by omega)]; exact q1
            · rw [Array.getElem?_setIfInBounds, if_neg (by omega), Array.getElem?_setIfInBounds, if_neg (by omega), Array.getElem?_setIfInBounds, if_neg (by omega)]; exact q2
            · rw [Array.getElem?_setIfInBounds, if_neg (by omega), Array.getElem?_setIfInBounds, if_neg (by omega), Array.getElem?_setIfInBounds, if_neg (by omega)]; exact q3
        · obtain ⟨q1, q2, q3⟩ := HHI.out j (by omega) hjn
          refine ⟨?_, ?_, ?_⟩
          · rw [Array.getElem?_setIfInBounds, if_neg (by omega), Array.getElem?_setIfInBounds, if_neg (by omega), Array.getElem?_setIfInBounds, if_neg (by omega)]; exact q1
          · rw [Array.getElem?_setIfInBounds, if_neg (by omega), Array.getElem?_setIfInBounds, if_neg (by omega), Array.getElem?_setIfInBounds, if_neg (by omega)]; exact q2
          · rw [Array.getElem?_setIfInBounds, if_neg (by omega), Array.getElem?_setIfInBounds, if_neg (by omega), Array.getElem?_setIfInBounds, if_neg (by omega)]; exact q3
        · exact ((HPU.out.far (by simp) _).far (by simp) _).far (by simp) _
      case measure => simp [intOf]; omega
    · obtain rfl : k = n := by omega
      have ho : OwnM wr w.heap.size wr.heap.size k h ts := ⟨⟨cs, hblk, hsz, hlow⟩, hblk.lt, hrows, fun j hj b hb => ((hrows.row j hj).lt b hb).2⟩
      have hrd := ho.reads HL.out (by omega) (fun j hj => by have := totM_one ts hj; omega)
      have HO := Lib.hid ho
      have HRD := Lib.hid hrd
      clear ho hrd hlow hhigh hrows
      go_wp2
      go_ret
      exact ⟨rfl, HRD.out, ⟨h, HO.out⟩, hle⟩

set_option maxHeartbeats 1000000 in
theorem eqItem_self (y : Int) (A B : Option Addr) (n m c d : Nat) (mk : Int) (ps : List (Int × Int)) (w : World) (h : RP w A n ps) (h' : RP w B m ps) :
    Calls Try.prog 51 #[.agg #[.int .i64 y, .slice A n c, .int .i64 mk], .agg #[.int .i64 y, .slice B m d, .int .i64 mk]] w fun e w' => e = .returned (.bool true) ∧ Le w w' := by
  have l0 : Le w ((w.alloc (.cells #[.int .i64 y, .slice A n c, .int .i64 mk] 67)).alloc (.cells #[.int .i64 y, .slice B m d, .int .i64 mk] 67)) := ((Le.refl w).alloc _).alloc _
  have hq := eqPartS_self A B n m c d ps _ (h.le l0) (h'.le l0)
  have k1 : Blk ((w.alloc (.cells #[.int .i64 y, .slice A n c, .int .i64 mk] 67)).alloc (.cells #[.int .i64 y, .slice B m d, .int .i64 mk] 67)) w.heap.size 67 #[.int .i64 y, .slice A n c, .int .i64 mk] := (Blk.new _ _ _).alloc _
  have k2 : Blk ((w.alloc (.cells #[.int .i64 y, .slice A n c, .int .i64 mk] 67)).alloc (.cells #[.int .i64 y, .slice B m d, .int .i64 mk] 67)) (w.heap.size + 1) 67 #[.int .i64 y, .slice B m d, .int .i64 mk] := by
    have := Blk.new (w.alloc (.cells #[.int .i64 y, .slice A n c, .int .i64 mk] 67)) 67 #[.int .i64 y, .slice B m d, .int .i64 mk]
    simpa using this
  have hb1 : (y != y) = false := by simp
  have hb2 : (mk != mk) = false := by simp
  have HQ := Lib.hid hq
  have K1 := Lib.hid k1
  have K2 := Lib.hid k2
  have L0 := Lib.hid l0
  clear h h' hq k1 k2 l0
  go_enter Try.func51, Try.ntmps51
  go_wp2_with fail
  refine HQ.out.mono ?_; rintro e w1 ⟨rfl, l1⟩
  have a1 := (K1.out.le l1).cell 2
  have a2 := (K2.out.le l1).cell 2
  have L1 := Lib.hid l1
  clear l1
  simp at a1 a2
  go_wp2
  go_ret
  exact ⟨rfl, L0.out.trans L1.out⟩
end Go.Proofs.Ytbkjfgbafphopaa
