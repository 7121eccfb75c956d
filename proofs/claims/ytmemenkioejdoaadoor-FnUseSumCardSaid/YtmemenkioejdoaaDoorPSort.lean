/- Plain laws: an insertion sort of the indices 0 .. n-1 by a key that grows with the index. -/
import Derived.Test.YtmemenkioejdoaaDoorKit
namespace Go.Proofs.YtmemenkioejdoaaDoor

def lastOf (ps : List (Int × Int)) (x : Int) : Int := (gp ps x.toNat).2
def keyL (ps : List (Int × Int)) (x : Int) : Int := lastOf ps x * 8 + x

theorem gi_set (xs : List Int) (j q : Nat) (v : Int) (hj : j < xs.length) : gi (xs.set j v) q = if q = j then v else gi xs q := by
  unfold gi
  rw [List.getD_eq_getElem?_getD, List.getD_eq_getElem?_getD, List.getElem?_set]
  by_cases h : j = q
  · subst h; simp [hj]
  · rw [if_neg h, if_neg (by omega)]

structure Pre (ps : List (Int × Int)) (xs : List Int) (n i : Nat) : Prop where
  len : xs.length = n
  le : i ≤ n
  tail : ∀ q, i ≤ q → q < n → gi xs q = q
  lo : ∀ q, q < i → 0 ≤ gi xs q ∧ gi xs q < i
  srt : ∀ q, q + 1 < i → keyL ps (gi xs q) < keyL ps (gi xs (q + 1))
  mem : ∀ k : Nat, k < i → ∃ q, q < i ∧ gi xs q = k

structure Mid (ps : List (Int × Int)) (xs : List Int) (n i j : Nat) : Prop where
  len : xs.length = n
  lt : i < n
  le : j ≤ i
  me : gi xs j = i
  tail : ∀ q, i < q → q < n → gi xs q = q
  lo : ∀ q, q ≤ i → q ≠ j → 0 ≤ gi xs q ∧ gi xs q < i
  c1 : ∀ q, q + 1 < j → keyL ps (gi xs q) < keyL ps (gi xs (q + 1))
  c2 : ∀ q, j < q → q + 1 ≤ i → keyL ps (gi xs q) < keyL ps (gi xs (q + 1))
  c3 : j < i → keyL ps i < keyL ps (gi xs (j + 1))
  c4 : 0 < j → j < i → keyL ps (gi xs (j - 1)) < keyL ps (gi xs (j + 1))
  mem : ∀ k : Nat, k ≤ i → ∃ q, q ≤ i ∧ gi xs q = k

theorem Pre.zero (ps : List (Int × Int)) (xs : List Int) (n : Nat) (hl : xs.length = n) (h : ∀ q, q < n → gi xs q = q) (hn : 1 ≤ n) : Pre ps xs n 1 :=
  ⟨hl, hn, fun q _ hq => h q hq, fun q hq => by rw [h q (by omega)]; omega, fun q hq => absurd hq (by omega), fun k hk => ⟨k, hk, h k (by omega)⟩⟩
theorem Pre.mid {ps : List (Int × Int)} {xs : List Int} {n i : Nat} (h : Pre ps xs n i) (hi : i < n) : Mid ps xs n i i :=
  ⟨h.len, hi, Nat.le_refl _, h.tail i (Nat.le_refl _) hi, fun q hq hn => h.tail q (by omega) hn, fun q hq hne => h.lo q (by omega), fun q hq => h.srt q (by omega), fun q h1 h2 => absurd h1 (by omega), fun h => absurd h (by omega), fun _ h => absurd h (by omega),
    fun k hk => by
      by_cases e : k = i
      · subst e; exact ⟨k, Nat.le_refl _, h.tail k (Nat.le_refl _) hi⟩
      · obtain ⟨q, h1, h2⟩ := h.mem k (by omega); exact ⟨q, by omega, h2⟩⟩
theorem Mid.done {ps : List (Int × Int)} {xs : List Int} {n i j : Nat} (h : Mid ps xs n i j) (he : 0 < j → lastOf ps (gi xs (j - 1)) ≤ lastOf ps i) : Pre ps xs n (i + 1) :=
  ⟨h.len, h.lt, fun q hq hn => h.tail q (by omega) hn, fun q hq => by
      by_cases e : q = j
      · subst e; rw [h.me]; omega
      · have := h.lo q (by omega) e; omega,
    fun q hq => by
      by_cases e1 : q + 1 < j
      · exact h.c1 q e1
      · by_cases e2 : q + 1 = j
        · rw [e2, h.me]
          have h1 := he (by omega)
          have h2 := h.lo q (by omega) (by omega)
          rw [show j - 1 = q by omega] at h1
          unfold keyL
          omega
        · by_cases e3 : q = j
          · subst e3; rw [h.me]; exact h.c3 (by omega)
          · exact h.c2 q (by omega) (by omega),
    fun k hk => by obtain ⟨q, h1, h2⟩ := h.mem k (by omega); exact ⟨q, by omega, h2⟩⟩
theorem Mid.swap {ps : List (Int × Int)} {xs : List Int} {n i j : Nat} (h : Mid ps xs n i j) (hj : 0 < j) (hi8 : i < 8) (he : lastOf ps i < lastOf ps (gi xs (j - 1))) :
    Mid ps ((xs.set j (gi xs (j - 1))).set (j - 1) (gi xs j)) n i (j - 1) := by
  have hle := h.le
  have hlt := h.lt
  have hlen := h.len
  have e : ∀ q, gi ((xs.set j (gi xs (j - 1))).set (j - 1) (gi xs j)) q = if q = j - 1 then gi xs j else if q = j then gi xs (j - 1) else gi xs q := fun q => by
    rw [gi_set _ _ _ _ (by simp; omega), gi_set _ _ _ _ (by omega)]
  have hp := h.lo (j - 1) (by omega) (by omega)
  refine ⟨by simp [hlen], hlt, by omega, ?_, ?_, ?_, ?_, ?_, ?_, ?_, ?_⟩
  · rw [e, if_pos rfl]; exact h.me
  · intro q h1 h2; rw [e, if_neg (by omega), if_neg (by omega)]; exact h.tail q h1 h2
  · intro q h1 h2
    rw [e, if_neg h2]
    by_cases e2 : q = j
    · rw [if_pos e2]; exact hp
    · rw [if_neg e2]; exact h.lo q h1 e2
  · intro q hq
    rw [e, e, if_neg (by omega), if_neg (by omega), if_neg (by omega), if_neg (by omega)]
    exact h.c1 q (by omega)
  · intro q h1 h2
    have e1 : gi ((xs.set j (gi xs (j - 1))).set (j - 1) (gi xs j)) (q + 1) = gi xs (q + 1) := by rw [e, if_neg (by omega), if_neg (by omega)]
    rw [e1]
    by_cases e2 : q = j
    · rw [e q, if_neg (by omega), if_pos e2, e2]; exact h.c4 hj (by omega)
    · rw [e q, if_neg (by omega), if_neg e2]; exact h.c2 q (by omega) h2
  · intro _
    rw [e, if_neg (by omega), if_pos (by omega)]
    unfold keyL
    omega
  · intro h1 h2
    rw [e, e, if_neg (by omega), if_neg (by omega), if_neg (by omega), if_pos (by omega)]
    have := h.c1 (j - 1 - 1) (by omega)
    rw [show j - 1 - 1 + 1 = j - 1 by omega] at this
    exact this
  · intro k hk
    obtain ⟨q, h1, h2⟩ := h.mem k hk
    by_cases e2 : q = j
    · subst e2; exact ⟨q - 1, by omega, by rw [e, if_pos rfl]; exact h2⟩
    · by_cases e3 : q = j - 1
      · subst e3; exact ⟨j, hle, by rw [e, if_neg (by omega), if_pos rfl]; exact h2⟩
      · exact ⟨q, h1, by rw [e, if_neg e3, if_neg e2]; exact h2⟩
end Go.Proofs.YtmemenkioejdoaaDoor
