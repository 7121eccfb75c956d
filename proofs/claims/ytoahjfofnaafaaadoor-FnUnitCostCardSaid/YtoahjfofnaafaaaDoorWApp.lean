/- Small words for appends to a row of the call's own. -/
import Derived.Test.YtoahjfofnaafaaaDoorWMark
import Derived.StillTailTactics
namespace Go.Proofs.YtoahjfofnaafaaaDoor
open Go.RowKit

theorem ints_append (xs ys : List Int) : ints (xs ++ ys) = ints xs ++ ints ys := by simp [ints]
theorem own_empty (w : World) (e : TypeId) (size : Nat) : (w.alloc (.cells #[] e)).ownsRow w.heap.size e size (.slice (some ⟨w.heap.size, 0, none⟩) 0 0) 0 [] :=
  World.ownsRow_made w #[] 0 (Nat.le_refl _) (by unfold maxLen; omega) (by simp)
theorem cell_one (w : World) (n : Nat) (hn : w.heap.size = n) (v : Value) (t : TypeId) : ∀ j u, [v][j]? = some u → ((w.alloc (.cells #[v] t)).drew).cell? ((⟨n, 0, none⟩ : Addr).add j) = some u := by
  subst hn
  exact cell_one_new w v t
theorem cell_one' (w : World) (n : Nat) (hn : w.heap.size = n) (v : Value) (t : TypeId) : ∀ j u, [v][j]? = some u → (w.alloc (.cells #[v] t)).cell? ((⟨n, 0, none⟩ : Addr).add j) = some u := by
  subst hn
  exact cell_one_new w v t
theorem cell_two' (w : World) (n : Nat) (hn : w.heap.size = n) (a b : Value) (t : TypeId) : ∀ j u, [a, b][j]? = some u → (w.alloc (.cells #[a, b] t)).cell? ((⟨n, 0, none⟩ : Addr).add j) = some u := by
  subst hn
  intro j u hj
  rw [addr0, (Blk.new w t #[a, b]).cell j]
  rw [← hj]
  match j with
  | 0 => rfl
  | 1 => rfl
  | j + 2 => rfl
theorem cell_two (w : World) (n : Nat) (hn : w.heap.size = n) (a b : Value) (t : TypeId) : ∀ j u, [a, b][j]? = some u → ((w.alloc (.cells #[a, b] t)).drew).cell? ((⟨n, 0, none⟩ : Addr).add j) = some u := cell_two' w n hn a b t
theorem own_drew {w : World} {base : Nat} {e : TypeId} {size : Nat} {v : Value} {n : Nat} {xs : List Value} (h : w.ownsRow base e size v n xs) : w.drew.ownsRow base e size v n xs := h
theorem own_far {w : World} {base : Nat} {e : TypeId} {size : Nat} {v : Value} {n : Nat} {xs : List Value} (h : w.ownsRow base e size v n xs) {p : Addr} (hp : v.ownBlock ≠ some p.block) (u : Value) : (w.setCell p u).ownsRow base e size v n xs := by
  obtain ⟨h1, h2⟩ := h
  refine ⟨h1, ?_⟩
  rcases h2 with h2 | ⟨g, cap, cur, hv, hg, hh, r⟩
  · exact Or.inl h2
  · subst hv
    exact Or.inr ⟨g, cap, cur, rfl, hg, (Blk.far (t := e) hh (fun e => hp (by simp [Value.ownBlock, e])) u), r⟩
theorem pairs_snoc (ps : List (Int × Int)) (q : Int × Int) : pairs (ps ++ [q]) = pairs ps ++ [.int .i64 q.1, .int .i64 q.2] := by
  apply List.ext_getElem?
  intro j
  have e : ∀ k, k < ps.length → gp (ps ++ [q]) k = gp ps k := fun k hk => by
    unfold gp; rw [List.getD_eq_getElem?_getD, List.getD_eq_getElem?_getD, List.getElem?_append_left hk]
  have e2 : gp (ps ++ [q]) ps.length = q := by
    unfold gp; rw [List.getD_eq_getElem?_getD, List.getElem?_append_right (Nat.le_refl _)]; simp
  rcases Nat.lt_or_ge j (ps.length * 2) with h | h
  · rw [pairs_getElem? (by simp; omega), List.getElem?_append_left (by rw [pairs_length]; exact h), pairs_getElem? h]
    unfold cellP
    rw [e (j / 2) (by omega)]
  · rw [List.getElem?_append_right (by rw [pairs_length]; exact h), pairs_length]
    by_cases h1 : j = ps.length * 2
    · subst h1
      rw [pairs_getElem? (by simp), cellP_0, e2]; simp
    · by_cases h2 : j = ps.length * 2 + 1
      · subst h2
        rw [pairs_getElem? (by simp; omega), cellP_1, e2]
        rw [show ps.length * 2 + 1 - ps.length * 2 = 1 by omega]; rfl
      · rw [List.getElem?_eq_none (by rw [pairs_length]; simp; omega), List.getElem?_eq_none (by simp; omega)]
/-- pairs of a row of the call's own: the value is a slice that reads as them -/
theorem own_RP {w : World} {base : Nat} {e : TypeId} {v : Value} {n : Nat} {ps : List (Int × Int)} (h : w.ownsRow base e 2 v n (pairs ps)) (hm : n ≤ 9223372036854775807) :
    ∃ A c, v = .slice A n c ∧ RP w A n ps := by
  have hl : ps.length = n := by have := h.1; rw [pairs_length] at this; omega
  rcases h.2 with ⟨rfl, rfl⟩ | ⟨g, cap, cur, rfl, hb, hg, hn, hcm, hs, ht⟩
  · exact ⟨none, 0, rfl, hl, hm, fun k hk => absurd hk (by omega)⟩
  · refine ⟨_, _, rfl, hl, hm, fun k hk => ⟨_, rfl, ?_, ?_⟩⟩
    · have := h.cells (g := g) rfl (k * 2) _ (pairs_getElem? (by omega))
      rw [this, cellP_0]
    · have := h.cells (g := g) rfl (k * 2 + 1) _ (pairs_getElem? (by omega))
      rw [addr0] at this ⊢
      rw [cellP_1] at this
      exact this
theorem own_RP2 {w : World} {base : Nat} {e : TypeId} {A : Option Addr} {n c : Nat} {ps : List (Int × Int)} (h : w.ownsRow base e 2 (.slice A n c) n (pairs ps)) (hm : n ≤ 9223372036854775807) : RP w A n ps := by
  obtain ⟨A', c', he, hr⟩ := own_RP h hm
  injection he with e1 e2 e3
  subst e1
  exact hr
end Go.Proofs.YtoahjfofnaafaaaDoor
