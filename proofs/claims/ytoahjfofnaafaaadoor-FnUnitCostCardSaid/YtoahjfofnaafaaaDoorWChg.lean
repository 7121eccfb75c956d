/- Small words: what turns only blocks between two marks; rows that hold rows of the call's own. -/
import Derived.Test.YtoahjfofnaafaaaDoorWMark
namespace Go.Proofs.YtoahjfofnaafaaaDoor
open Go.RowKit

/-- only blocks from lo on and below hi have turned, and what is new -/
structure Chg (lo hi : Nat) (w w' : World) : Prop where
  os : w'.os = w.os
  tape : w'.tape = w.tape
  output : w'.output = w.output
  size : w.heap.size ≤ w'.heap.size
  block : ∀ k, k < w.heap.size → (k < lo ∨ hi ≤ k) → w'.heap[k]? = w.heap[k]?
theorem Chg.refl (lo hi : Nat) (w : World) : Chg lo hi w w := ⟨rfl, rfl, rfl, Nat.le_refl _, fun _ _ _ => rfl⟩
theorem Chg.trans {lo hi : Nat} {a b c : World} (h : Chg lo hi a b) (k : Chg lo hi b c) : Chg lo hi a c :=
  ⟨k.os.trans h.os, k.tape.trans h.tape, k.output.trans h.output, Nat.le_trans h.size k.size, fun i hi h2 => (k.block i (Nat.lt_of_lt_of_le hi h.size) h2).trans (h.block i hi h2)⟩
theorem Chg.mono {lo hi lo' hi' : Nat} {a b : World} (h : Chg lo hi a b) (h1 : lo' ≤ lo) (h2 : hi ≤ hi') : Chg lo' hi' a b :=
  ⟨h.os, h.tape, h.output, h.size, fun i hi h3 => h.block i hi (by omega)⟩
theorem Chg.of_gb {lo hi : Nat} {a b : World} {row : Option Nat} (h : a.grownBy b row) (hr : ∀ g, row = some g → lo ≤ g ∧ g < hi) : Chg lo hi a b :=
  ⟨h.os, h.tape, h.output, h.size, fun i hi h3 => h.block i hi fun e => by have := hr i e.symm; omega⟩
theorem Chg.of_le {lo hi : Nat} {a b : World} (h : Le a b) : Chg lo hi a b := ⟨h.os, h.tape, h.output, h.size, fun i hi _ => h.block i hi⟩
theorem Chg.le {lo hi : Nat} {a w w' : World} (h : Chg lo hi w w') (ha : Le a w) (hl : a.heap.size ≤ lo) : Le a w' :=
  ⟨h.os.trans ha.os, h.tape.trans ha.tape, h.output.trans ha.output, Nat.le_trans ha.size h.size, fun k hk => (h.block k (Nat.lt_of_lt_of_le hk ha.size) (.inl (by omega))).trans (ha.block k hk)⟩
theorem Chg.own {lo hi : Nat} {w w' : World} {base : Nat} {e : TypeId} {size : Nat} {v : Value} {n : Nat} {xs : List Value} (h : w.ownsRow base e size v n xs) (hc : Chg lo hi w w') (hb : ∀ g, v.ownBlock = some g → g < lo ∨ hi ≤ g) : w'.ownsRow base e size v n xs := by
  obtain ⟨h1, h2⟩ := h
  refine ⟨h1, ?_⟩
  rcases h2 with h2 | ⟨g, cap, cur, hv, hg, hh, r⟩
  · exact Or.inl h2
  · have hlt : g < w.heap.size := by
      rcases Nat.lt_or_ge g w.heap.size with e | e
      · exact e
      · rw [Array.getElem?_eq_none e] at hh; cases hh
    refine Or.inr ⟨g, cap, cur, hv, hg, (hc.block g hlt (hb g (by rw [hv]; rfl))).trans hh, r⟩
theorem Chg.set {lo hi : Nat} {w : World} {g : Nat} (h1 : lo ≤ g) (h2 : g < hi) (i : Nat) (u : Value) : Chg lo hi w (w.setCell ⟨g, i, none⟩ u) :=
  Chg.of_gb (gb_setCell (World.grownBy.refl _ (some g)) rfl _) fun b hb => by injection hb with hb; omega
theorem own_mono {w : World} {base base' : Nat} {e : TypeId} {size : Nat} {v : Value} {n : Nat} {xs : List Value} (h : w.ownsRow base e size v n xs) (hb : base' ≤ base) : w.ownsRow base' e size v n xs := by
  obtain ⟨h1, h2⟩ := h
  refine ⟨h1, ?_⟩
  rcases h2 with h2 | ⟨g, cap, cur, hv, hg, r⟩
  · exact Or.inl h2
  · exact Or.inr ⟨g, cap, cur, hv, Nat.le_trans hb hg, r⟩
end Go.Proofs.YtoahjfofnaafaaaDoor
