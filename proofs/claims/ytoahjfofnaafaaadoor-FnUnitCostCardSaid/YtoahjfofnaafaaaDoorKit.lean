/- Words for memory: a slice value that reads as a list of integers, a row of the call's own, and how these are carried from world to world. No program in sight. -/
import Derived.WalkKit
import Derived.WalkSpells
import Derived.WalkLawsBesides
import Derived.Lib.Hide
import Derived.Handy
import Derived.Deep.QuietTactic
import Derived.BigQuiet
import Derived.Deep.Draws
namespace Go.Proofs.YtoahjfofnaafaaaDoor
open Go.RowKit

/-- the k-th number of a list (0 behind its end): a name that the walk does not look behind -/
def gi (xs : List Int) (k : Nat) : Int := xs.getD k 0

theorem gi_cons_succ (x : Int) (xs : List Int) (k : Nat) : gi (x :: xs) (k + 1) = gi xs k := by simp [gi]
theorem gi_mem {xs : List Int} {k : Nat} (h : k < xs.length) : gi xs k ∈ xs := by
  unfold gi; rw [List.getD_eq_getElem?_getD, List.getElem?_eq_getElem h]; simp
theorem gi_getElem? {xs : List Int} {k : Nat} (h : k < xs.length) : xs[k]? = some (gi xs k) := by
  unfold gi; rw [List.getD_eq_getElem?_getD, List.getElem?_eq_getElem h]; simp
theorem all_iff_gi {xs : List Int} {p : Int → Bool} : xs.all p = true ↔ ∀ k, k < xs.length → p (gi xs k) = true := by
  rw [List.all_eq_true]
  constructor
  · intro h k hk; exact h _ (gi_mem hk)
  · intro h x hx
    obtain ⟨k, hk, rfl⟩ := List.mem_iff_getElem.1 hx
    have := h k hk
    rw [show gi xs k = xs[k] by unfold gi; rw [List.getD_eq_getElem?_getD, List.getElem?_eq_getElem hk]; simp] at this
    exact this

/-- numbers of 64 bits -/
def W64 (xs : List Int) : Prop := ∀ x ∈ xs, -9223372036854775808 ≤ x ∧ x ≤ 9223372036854775807

/-- w' is w with more: all that was there is as it was -/
def Le (w w' : World) : Prop := Below w.heap.size w w'
theorem Le.refl (w : World) : Le w w := Below.refl _ _
theorem Le.trans {a b c : World} (h : Le a b) (k : Le b c) : Le a c := Below.trans h (Below.mono k h.size)
theorem Le.cell {w w' : World} (h : Le w w') {a : Addr} {v : Value} (hc : w.cell? a = some v) : w'.cell? a = some v :=
  (Below.cell h (World.block_lt_of_cell? w a hc)).trans hc
theorem Le.alloc {a w : World} (h : Le a w) (o : Obj) : Le a (w.alloc o) := Below.alloc h h.size o
theorem Le.drew {a w : World} (h : Le a w) : Le a w.drew := Below.drew h
theorem Le.drewN {a w : World} (h : Le a w) (n : Nat) : Le a (w.drewN n) := ⟨h.os, h.tape, h.output, h.size, h.block⟩
theorem Le.setCell {a w : World} (h : Le a w) {p : Addr} (hp : a.heap.size ≤ p.block) (u : Value) : Le a (w.setCell p u) := Below.setCell h hp u
theorem Le.grown {a w w' : World} {row : Option Nat} (h : Le a w) (hg : w.grownBy w' row) (hr : ∀ k, row = some k → a.heap.size ≤ k) : Le a w' :=
  Below.grown h hg h.size hr
theorem Le.below {w w' : World} (h : Le w w') : Below w.heap.size w w' := h

/-- the slice value '.slice A n c' reads as these integers -/
structure RI (w : World) (A : Option Addr) (n : Nat) (xs : List Int) : Prop where
  len : xs.length = n
  max : n ≤ 9223372036854775807
  at_ : ∀ k, k < n → ∃ ad, A = some ad ∧ w.cell? (ad.add k) = some (.int .i64 (gi xs k))

theorem RI.le {w w' : World} {A : Option Addr} {n : Nat} {xs : List Int} (h : RI w A n xs) (hb : Le w w') : RI w' A n xs :=
  ⟨h.len, h.max, fun k hk => let ⟨ad, e, hc⟩ := h.at_ k hk; ⟨ad, e, hb.cell hc⟩⟩
theorem RI.nil (w : World) : RI w none 0 [] := ⟨rfl, by omega, fun k hk => absurd hk (by omega)⟩

/-- the k-th pair of a list -/
def gp (ps : List (Int × Int)) (k : Nat) : Int × Int := ps.getD k (0, 0)
theorem gp_getElem? {xs : List (Int × Int)} {k : Nat} (h : k < xs.length) : xs[k]? = some (gp xs k) := by
  unfold gp; rw [List.getD_eq_getElem?_getD, List.getElem?_eq_getElem h]; simp
theorem gp_mem {xs : List (Int × Int)} {k : Nat} (h : k < xs.length) : gp xs k ∈ xs := List.mem_of_getElem? (gp_getElem? h)
theorem all_iff_gp {xs : List (Int × Int)} {p : Int × Int → Bool} : xs.all p = true ↔ ∀ k, k < xs.length → p (gp xs k) = true := by
  rw [List.all_eq_true]
  constructor
  · intro h k hk; exact h _ (gp_mem hk)
  · intro h x hx
    obtain ⟨k, hk, rfl⟩ := List.mem_iff_getElem.1 hx
    have := h k hk
    rw [show gp xs k = xs[k] by unfold gp; rw [List.getD_eq_getElem?_getD, List.getElem?_eq_getElem hk]; simp] at this
    exact this
theorem ext_gp {xs ys : List (Int × Int)} (hl : xs.length = ys.length) (h : ∀ k, k < xs.length → gp xs k = gp ys k) : xs = ys := by
  apply List.ext_getElem?
  intro k
  by_cases hk : k < xs.length
  · rw [gp_getElem? hk, gp_getElem? (by omega), h k hk]
  · rw [List.getElem?_eq_none (by omega), List.getElem?_eq_none (by omega)]

/-- the slice value '.slice A n c' reads as these pairs (structs of two integers) -/
structure RP (w : World) (A : Option Addr) (n : Nat) (ps : List (Int × Int)) : Prop where
  len : ps.length = n
  max : n ≤ 9223372036854775807
  at_ : ∀ k, k < n → ∃ ad, A = some ad ∧ w.cell? (ad.add (k * 2)) = some (.int .i64 (gp ps k).1) ∧ w.cell? ⟨(ad.add (k * 2)).block, (ad.add (k * 2)).off + 1, none⟩ = some (.int .i64 (gp ps k).2)
theorem RP.le {w w' : World} {A : Option Addr} {n : Nat} {ps : List (Int × Int)} (h : RP w A n ps) (hb : Le w w') : RP w' A n ps :=
  ⟨h.len, h.max, fun k hk => let ⟨ad, e, hc, hd⟩ := h.at_ k hk; ⟨ad, e, hb.cell hc, hb.cell hd⟩⟩

/-- block g is just these cells, none frozen -/
def Blk (w : World) (g : Nat) (t : TypeId) (cs : Array Value) : Prop := w.heap[g]? = some (.cells cs t (0, 0))
section
variable {w w' : World} {g : Nat} {t : TypeId} {cs : Array Value}
theorem Blk.lt (h : Blk w g t cs) : g < w.heap.size := by
  rcases Nat.lt_or_ge g w.heap.size with hlt | hge
  · exact hlt
  · unfold Blk at h; rw [Array.getElem?_eq_none hge] at h; cases h
theorem Blk.cell (h : Blk w g t cs) (i : Nat) : w.cell? ⟨g, i, none⟩ = cs[i]? := cell_of_row w g i cs t (0, 0) h
theorem Blk.frozen (h : Blk w g t cs) (i : Nat) : w.frozen? ⟨g, i, none⟩ = false := by
  unfold Blk at h
  simp [World.frozen?, h]
theorem Blk.new (w : World) (t : TypeId) (cs : Array Value) : Blk (w.alloc (.cells cs t)) w.heap.size t cs := heap_alloc_new w _
theorem Blk.drew (h : Blk w g t cs) : Blk w.drew g t cs := h
theorem Blk.drewN (h : Blk w g t cs) (n : Nat) : Blk (w.drewN n) g t cs := h
theorem Blk.alloc (h : Blk w g t cs) (o : Obj) : Blk (w.alloc o) g t cs := (Below.heap_alloc w o g h.lt).trans h
theorem Blk.set_ (h : Blk w g t cs) (i : Nat) (u : Value) : Blk (w.setCell ⟨g, i, none⟩ u) g t (cs.setIfInBounds i u) := by
  unfold Blk at h ⊢
  simp [World.setCell, Array.getElem?_modify, h]
theorem Blk.far (h : Blk w g t cs) {p : Addr} (hp : g ≠ p.block) (u : Value) : Blk (w.setCell p u) g t cs := (Below.heap_setCell w p u g hp).trans h
theorem Blk.le (h : Blk w g t cs) (hb : Le w w') : Blk w' g t cs := (Below.block hb g h.lt).trans h
theorem Blk.grown {row : Option Nat} (h : Blk w g t cs) (hb : w.grownBy w' row) (hg : some g ≠ row) : Blk w' g t cs := (hb.block g h.lt hg).trans h
theorem Blk.own {base size n cap : Nat} (h : Blk w g t cs) (hb : base ≤ g) (hn : n ≤ cap) (hm : cap ≤ maxLen) (hs : cs.size = cap * size) :
    w.ownsRow base t size (.slice (some ⟨g, 0, none⟩) n cap) n (cs.toList.take (n * size)) := by
  refine ⟨?_, .inr ⟨g, cap, cs, rfl, hb, h, hn, hm, hs, rfl⟩⟩
  rw [List.length_take, Array.length_toList, hs, Nat.min_eq_left (Nat.mul_le_mul_right _ hn)]
end

/-- only block g, and what is new, has turned: behind a draw, a new block, a store -/
theorem gb_drewN {a w : World} {row : Option Nat} (h : a.grownBy w row) (n : Nat) : a.grownBy (w.drewN n) row := ⟨h.os, h.tape, h.output, h.size, h.block⟩
theorem gb_drew {a w : World} {row : Option Nat} (h : a.grownBy w row) : a.grownBy w.drew row := ⟨h.os, h.tape, h.output, h.size, h.block⟩
theorem gb_le {a w w' : World} {row : Option Nat} (h : a.grownBy w row) (k : Le w w') : a.grownBy w' row :=
  ⟨k.os.trans h.os, k.tape.trans h.tape, k.output.trans h.output, Nat.le_trans h.size k.size, fun i hi hn => (k.block i (Nat.lt_of_lt_of_le hi h.size)).trans (h.block i hi hn)⟩
theorem gb_setCell {a w : World} {g : Nat} (h : a.grownBy w (some g)) {p : Addr} (hp : p.block = g) (u : Value) : a.grownBy (w.setCell p u) (some g) :=
  ⟨h.os, h.tape, h.output, by simpa [World.setCell] using h.size, fun i hi hne => (Below.heap_setCell w p u i (by rintro rfl; exact hne (by rw [hp]))).trans (h.block i hi hne)⟩
theorem gb_Le {a w : World} {g : Nat} (h : a.grownBy w (some g)) (hg : a.heap.size ≤ g) : Le a w :=
  ⟨h.os, h.tape, h.output, h.size, fun i hi => h.block i hi (fun e => by injection e with e; omega)⟩

theorem addr0 (g k : Nat) : (⟨g, 0, none⟩ : Addr).add k = ⟨g, k, none⟩ := by unfold Addr.add; split <;> simp_all

/-- a block of integers, as a slice -/
theorem Blk.RI_ {w : World} {g n : Nat} {t : TypeId} {cs : Array Value} {xs : List Int} (h : Blk w g t cs) (hl : xs.length = n) (hm : n ≤ 9223372036854775807) (hx : ∀ k, k < n → cs[k]? = some (.int .i64 (gi xs k))) : RI w (some ⟨g, 0, none⟩) n xs :=
  ⟨hl, hm, fun k hk => ⟨_, rfl, by rw [addr0, h.cell]; exact hx k hk⟩⟩

/-- integers as cells -/
def ints (xs : List Int) : List Value := xs.map (Value.int .i64)
theorem ints_getElem? {xs : List Int} {k : Nat} (h : k < xs.length) : (ints xs)[k]? = some (.int .i64 (gi xs k)) := by
  unfold ints; rw [List.getElem?_map, gi_getElem? h]; rfl
theorem ints_length (xs : List Int) : (ints xs).length = xs.length := by simp [ints]

theorem Blk.ownI {w : World} {base g : Nat} {e : TypeId} {xs : List Int} (h : Blk w g e (ints xs).toArray) (hb : base ≤ g) {n : Nat} (hn : xs.length = n) (hm : n ≤ 9223372036854775807) :
    w.ownsRow base e 1 (.slice (some ⟨g, 0, none⟩) n n) n (ints xs) := by
  have := Blk.own (size := 1) (n := n) (cap := n) h hb (Nat.le_refl _) (by unfold maxLen; omega) (by simp [ints_length, hn])
  rw [List.take_of_length_le (by simp [ints_length, hn])] at this
  simpa using this

/-- a row of integers of the call's own: the value is a slice that reads as them -/
theorem own_RI {w : World} {base : Nat} {e : TypeId} {v : Value} {n : Nat} {xs : List Int} (h : w.ownsRow base e 1 v n (ints xs)) (hm : n ≤ 9223372036854775807) :
    ∃ A c, v = .slice A n c ∧ RI w A n xs := by
  have hl : xs.length = n := by have := h.1; rw [ints_length] at this; omega
  rcases h.2 with ⟨rfl, rfl⟩ | ⟨g, cap, cur, rfl, hb, hg, hn, hcm, hs, ht⟩
  · exact ⟨none, 0, rfl, hl, hm, fun k hk => absurd hk (by omega)⟩
  · refine ⟨_, _, rfl, hl, hm, fun k hk => ⟨_, rfl, ?_⟩⟩
    have := h.cells (g := g) rfl k _ (ints_getElem? (by omega))
    exact this

/-- 'so far all': for the loops that leave at the first bad one -/
def AllTo (P : Nat → Bool) (k : Nat) : Prop := ∀ j, j < k → P j = true
theorem AllTo.zero (P : Nat → Bool) : AllTo P 0 := fun j hj => absurd hj (by omega)
theorem AllTo.succ {P : Nat → Bool} {k : Nat} (h : AllTo P k) (hk : P k = true) : AllTo P (k + 1) := fun j hj => by
  rcases Nat.lt_or_ge j k with h1 | h1
  · exact h j h1
  · obtain rfl : j = k := by omega
    exact hk
theorem AllTo.at_ {P : Nat → Bool} {k : Nat} (h : AllTo P k) {n j : Nat} (hn : ¬ k < n) (hj : j < n) : P j = true := h j (by omega)

/-- make([]T, n), n a number that the walk does not know -/
theorem run_mk {P : Program} (t e : TypeId) (z : Value) (sz bytes : Nat) (ht : P.underlying t = some (.slice e)) (hinfo : (P.info? e).map (fun i => (i.zero, i.size, i.bytes)) = some (some z, sz, bytes))
    (n : Nat) (hb : n * bytes ≤ 281474976710656) (h63 : n ≤ 9223372036854775807) (w : World) :
    (Instr.makeSlice t (.int .i64 (n : Int)) (.int .i64 (n : Int))).run P w = .ok (.slice (some ⟨w.heap.size, 0, none⟩) n n) (w.alloc (.cells (madeCells z.cells (n * sz)) e)) := by
  obtain ⟨i, hi, hz, hs, hby⟩ := info_parts hinfo
  have hb' : (i.bytes : Int) * (n : Int) ≤ 281474976710656 := by
    rw [hby, Int.mul_comm]
    have h : ((n * bytes : Nat) : Int) ≤ 281474976710656 := by omega
    rwa [Int.natCast_mul] at h
  have hr := run_make (P := P) w t e i z ht hi hz .i64 .i64 n n (by omega) (Int.le_refl _) hb' (by omega)
  simp only [Int.toNat_natCast, hs] at hr
  exact hr
theorem made_get (z : Value) (n k : Nat) (hk : k < n) : (madeCells #[z] n)[k]? = some z := by
  simp [madeCells, hk, Nat.mod_one]
theorem made_size (z : Array Value) (n : Nat) : (madeCells z n).size = n := by simp [madeCells]

/-- the cells of a row of n that is filled up to k: f before k, z from k on -/
def Filled (cs : Array Value) (n : Nat) (f z : Nat → Value) (k : Nat) : Prop := cs.size = n ∧ (∀ j, j < k → j < n → cs[j]? = some (f j)) ∧ (∀ j, k ≤ j → j < n → cs[j]? = some (z j))
theorem Filled.made (n : Nat) (f : Nat → Value) (z : Value) : Filled (madeCells #[z] n) n f (fun _ => z) 0 :=
  ⟨made_size _ _, fun j hj => absurd hj (by omega), fun j _ hj => made_get z n j hj⟩
theorem Filled.start {cs : Array Value} {n : Nat} {z : Nat → Value} (f : Nat → Value) (hs : cs.size = n) (hz : ∀ j, j < n → cs[j]? = some (z j)) : Filled cs n f z 0 :=
  ⟨hs, fun j hj => absurd hj (by omega), fun j _ hj => hz j hj⟩
theorem Filled.set_ {cs : Array Value} {n k : Nat} {f z : Nat → Value} (h : Filled cs n f z k) (hk : k < n) {v : Value} (hv : v = f k) : Filled (cs.setIfInBounds k v) n f z (k + 1) := by
  obtain ⟨h1, h2, h3⟩ := h
  subst hv
  refine ⟨by simp [h1], fun j hj hn => ?_, fun j hj hn => ?_⟩
  · rw [Array.getElem?_setIfInBounds]
    split
    · rename_i e; subst e; rw [if_pos (by omega)]
    · exact h2 j (by omega) hn
  · rw [Array.getElem?_setIfInBounds, if_neg (by omega)]
    exact h3 j (by omega) hn
theorem Filled.now {cs : Array Value} {n k : Nat} {f z : Nat → Value} (h : Filled cs n f z k) (hk : k < n) : cs[k]? = some (z k) := h.2.2 k (Nat.le_refl _) hk
theorem Filled.toList {cs : Array Value} {n k : Nat} {f z : Nat → Value} (h : Filled cs n f z k) (hk : ¬ k < n) (l : List Value) (hl : l.length = n) (hf : ∀ j, j < n → l[j]? = some (f j)) : cs = l.toArray := by
  apply Array.ext_getElem?
  intro j
  by_cases hj : j < n
  · rw [h.2.1 j (by omega) hj, List.getElem?_toArray, hf j hj]
  · rw [Array.getElem?_eq_none (by rw [h.1]; omega), List.getElem?_toArray, List.getElem?_eq_none (by omega)]

/-- a callee that leaves the world alone, inside a region that draws its order (first, and behind draws of before) -/
theorem quiet_l {P : Program} {f : FuncId} {args : Array Value} {w : World} {n : Nat} {v : Value}
    (h : Calls P f args (w.drewN n) fun e w' => e = .returned v ∧ w.drewN n = w') : Calls P f args (w.drewN n) fun e w'' => e = .returned v ∧ ∃ m, w'' = w.drewN m :=
  h.mono fun _ _ ⟨he, hm⟩ => ⟨he, n, hm.symm⟩
theorem quiet_al {P : Program} {f : FuncId} {args : Array Value} {w : World} {a n : Nat} {v : Value}
    (h : Calls P f args (w.drewN (a + n)) fun e w' => e = .returned v ∧ w.drewN (a + n) = w') : Calls P f args (w.drewN (a + n)) fun e w'' => e = .returned v ∧ ∃ m, w'' = w.drewN (a + m) :=
  h.mono fun _ _ ⟨he, hm⟩ => ⟨he, n, hm.symm⟩
theorem quiet_d {P : Program} {f : FuncId} {args : Array Value} {w : World} {n : Nat} {v : Value}
    (h : Calls P f args (w.drewN n) fun e w' => e = .returned v ∧ ∃ q, w' = (w.drewN n).drewN q) : Calls P f args (w.drewN n) fun e w'' => e = .returned v ∧ ∃ m, w'' = w.drewN m :=
  h.mono fun _ _ ⟨he, q, hm⟩ => ⟨he, n + q, by rw [hm, World.drewN_drewN]⟩
theorem quiet_ad {P : Program} {f : FuncId} {args : Array Value} {w : World} {a n : Nat} {v : Value}
    (h : Calls P f args (w.drewN (a + n)) fun e w' => e = .returned v ∧ ∃ q, w' = (w.drewN (a + n)).drewN q) : Calls P f args (w.drewN (a + n)) fun e w'' => e = .returned v ∧ ∃ m, w'' = w.drewN (a + m) :=
  h.mono fun _ _ ⟨he, q, hm⟩ => ⟨he, n + q, by rw [hm, World.drewN_drewN, Nat.add_assoc]⟩

/-- a contract, said the weaker way that all have in common -/
theorem le_of_pure {P : Program} {f : FuncId} {args : Array Value} {w : World} {v : Ending} (h : Calls P f args w fun e w' => e = v ∧ w = w') : Calls P f args w fun e w' => e = v ∧ Le w w' :=
  h.mono fun _ _ ⟨he, hw⟩ => ⟨he, hw ▸ Le.refl _⟩
theorem le_of_drew {P : Program} {f : FuncId} {args : Array Value} {w : World} {v : Ending} (h : Calls P f args w fun e w' => e = v ∧ ∃ q, w' = w.drewN q) : Calls P f args w fun e w' => e = v ∧ Le w w' :=
  h.mono fun _ _ ⟨he, q, hw⟩ => ⟨he, hw ▸ (Le.refl _).drewN q⟩

theorem RI.drewN {w : World} {A : Option Addr} {n : Nat} {xs : List Int} (h : RI w A n xs) (q : Nat) : RI (w.drewN q) A n xs := ⟨h.len, h.max, h.at_⟩
/-- the first k of a list -/
theorem RI.take {w : World} {A : Option Addr} {n : Nat} {xs : List Int} (h : RI w A n xs) {k : Nat} (hk : k ≤ n) : RI w A k (xs.take k) :=
  ⟨by rw [List.length_take, h.len]; omega, by have := h.max; omega, fun j hj => by
    obtain ⟨ad, e, hc⟩ := h.at_ j (by omega)
    refine ⟨ad, e, hc.trans ?_⟩
    have : gi (xs.take k) j = gi xs j := by
      unfold gi; rw [List.getD_eq_getElem?_getD, List.getD_eq_getElem?_getD, List.getElem?_take, if_pos hj]
    rw [this]⟩

/-- pairs as cells -/
def cellP (ps : List (Int × Int)) (j : Nat) : Value := if j % 2 = 0 then .int .i64 (gp ps (j / 2)).1 else .int .i64 (gp ps (j / 2)).2
theorem cellP_0 (ps : List (Int × Int)) (k : Nat) : cellP ps (k * 2) = .int .i64 (gp ps k).1 := by
  unfold cellP; rw [if_pos (by omega), Nat.mul_div_cancel _ (by omega)]
theorem cellP_1 (ps : List (Int × Int)) (k : Nat) : cellP ps (k * 2 + 1) = .int .i64 (gp ps k).2 := by
  unfold cellP; rw [if_neg (by omega), show (k * 2 + 1) / 2 = k by omega]
def pairs (ps : List (Int × Int)) : List Value := (List.range (ps.length * 2)).map (cellP ps)
theorem pairs_length (ps : List (Int × Int)) : (pairs ps).length = ps.length * 2 := by simp [pairs]
theorem pairs_getElem? {ps : List (Int × Int)} {j : Nat} (h : j < ps.length * 2) : (pairs ps)[j]? = some (cellP ps j) := by
  unfold pairs; rw [List.getElem?_map, List.getElem?_range h]; rfl
theorem made_get2 (a b : Value) (hab : a = b) (n j : Nat) (hj : j < n) : (madeCells #[a, b] n)[j]? = some a := by
  subst hab
  have h2 : j % 2 < 2 := Nat.mod_lt _ (by omega)
  rcases Nat.lt_or_ge (j % 2) 1 with h | h
  · have : j % 2 = 0 := by omega
    simp [madeCells, hj, this]
  · have : j % 2 = 1 := by omega
    simp [madeCells, hj, this]
theorem Blk.RP_ {w : World} {g n : Nat} {t : TypeId} {ps : List (Int × Int)} (h : Blk w g t (pairs ps).toArray) (hl : ps.length = n) (hm : n ≤ 9223372036854775807) : RP w (some ⟨g, 0, none⟩) n ps :=
  ⟨hl, hm, fun k hk => ⟨_, rfl, by
    rw [addr0, h.cell, List.getElem?_toArray, pairs_getElem? (by omega), cellP_0], by
    rw [addr0]
    show w.cell? ⟨g, k * 2 + 1, none⟩ = _
    rw [h.cell, List.getElem?_toArray, pairs_getElem? (by omega), cellP_1]⟩⟩

theorem ret_bool {a b : Bool} (h : a = b) : Ending.returned (.bool a) = .returned (.bool b) := by rw [h]
theorem ret_int {k : IntKind} {a b : Int} (h : a = b) : Ending.returned (.int k a) = .returned (.int k b) := by rw [h]

end Go.Proofs.YtoahjfofnaafaaaDoor
