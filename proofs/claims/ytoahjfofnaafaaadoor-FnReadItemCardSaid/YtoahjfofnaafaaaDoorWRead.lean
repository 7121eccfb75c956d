/- Walks: the numbers of a text: readNumber of the program, l1Read of the reference. -/
import Derived.Test.YtoahjfofnaafaaaDoorPText
namespace Go.Proofs.YtoahjfofnaafaaaDoor
open Go.RowKit

/-- byte k of a text -/
def byN (l : Bs) (k : Nat) : Nat := (l.getD k 0).toNat
theorem byN_lt (l : Bs) (k : Nat) : byN l k < 256 := UInt8.toNat_lt _
theorem size_bs (l : Bs) : (⟨l.toArray⟩ : ByteArray).size = l.length := rfl
theorem run_ix {P : Program} (t : TypeId) (ht : P.underlying t = some .string) (l : Bs) (k : Nat) (hk : k < l.length) (w : World) :
    (Instr.index t (.string ⟨l.toArray⟩) (.int .i64 (k : Int))).run P w = .ok (.int .u8 (byN l k : Int)) w := by
  have hs := size_bs l
  rw [run_index_string (P := P) w t ⟨l.toArray⟩ .i64 (k : Int) ht, dif_pos ⟨by omega, by omega⟩]
  have e : (⟨l.toArray⟩ : ByteArray)[(k : Int).toNat]'(by omega) = l.getD k 0 := by
    show l.toArray[k]'(by simpa using hk) = _
    rw [List.getD_eq_getElem?_getD, List.getElem?_eq_getElem hk]
    simp
  rw [e]; rfl
theorem digB_iff (b : UInt8) : digB b = true ↔ 48 ≤ b.toNat ∧ b.toNat ≤ 57 := by
  unfold digB; rw [Bool.and_eq_true, decide_eq_true_eq, decide_eq_true_eq]
theorem numV_snoc (l : Bs) {k : Nat} (hk : k < l.length) : numV (l.take (k + 1)) = numV (l.take k) * 10 + (byN l k - 48) := by
  unfold numV byN
  rw [List.take_add_one, List.getD_eq_getElem?_getD, List.getElem?_eq_getElem hk, List.foldl_append]
  rfl
theorem numV_small (l : Bs) : ∀ k, k ≤ l.length → numV (l.take k) + 24 ≤ 24 * 10 ^ k := by
  intro k
  induction k with
  | zero => intro _; rw [List.take_zero]; decide
  | succ k ih =>
    intro hk
    have h1 := ih (by omega)
    have h2 := byN_lt l k
    rw [numV_snoc l (by omega), Nat.pow_succ]
    omega
theorem readB_t {l : Bs} {d : Nat} (h1 : 1 ≤ l.length) (h2 : l.length ≤ d) (h3 : ¬ (1 < l.length ∧ byN l 0 = 48)) (h4 : ∀ j, j < l.length → 48 ≤ byN l j ∧ byN l j ≤ 57) : readB l d = true := by
  have e : l.all digB = true := List.all_eq_true.2 fun b hb => by
    obtain ⟨j, hj, rfl⟩ := List.mem_iff_getElem.1 hb
    have := h4 j hj
    unfold byN at this
    rw [List.getD_eq_getElem?_getD, List.getElem?_eq_getElem hj] at this
    exact (digB_iff _).2 this
  unfold readB
  rw [e]
  by_cases h : 1 < l.length
  · have h5 : ¬ l.getD 0 0 = 48 := fun e => h3 ⟨h, by unfold byN; rw [e]; rfl⟩
    simp only [h5, decide_false, Bool.and_false, Bool.not_false, Bool.and_true, Bool.and_eq_true, decide_eq_true_eq]
    exact ⟨h1, h2⟩
  · simp only [h, decide_false, Bool.false_and, Bool.not_false, Bool.and_true, Bool.and_eq_true, decide_eq_true_eq]
    exact ⟨h1, h2⟩
theorem readB_len {l : Bs} {d : Nat} (h : l.length < 1 ∨ d < l.length) : readB l d = false := by
  unfold readB
  rcases h with h | h
  · rw [decide_eq_false (show ¬ 1 ≤ l.length by omega)]; rfl
  · rw [decide_eq_false (show ¬ l.length ≤ d by omega), Bool.and_false]; rfl
theorem readB_zero {l : Bs} {d : Nat} (h1 : 1 < l.length) (h : byN l 0 = 48) : readB l d = false := by
  have e : l.getD 0 0 = 48 := UInt8.toNat_inj.1 h
  unfold readB
  rw [decide_eq_true h1, decide_eq_true e]
  simp
theorem readB_dig {l : Bs} {d k : Nat} (hk : k < l.length) (h : byN l k < 48 ∨ 57 < byN l k) : readB l d = false := by
  have e : l.all digB = false := by
    rw [← Bool.not_eq_true, List.all_eq_true]
    intro hall
    have := (digB_iff _).1 (hall _ (List.getElem_mem hk))
    unfold byN at h
    rw [List.getD_eq_getElem?_getD, List.getElem?_eq_getElem hk] at h
    simp at h
    omega
  unfold readB
  rw [e]; simp

set_option maxRecDepth 20000 in
set_option maxHeartbeats 2000000 in
theorem readNumber_any (l : Bs) (d : Nat) (hd : d ≤ 2) (hl : l.length ≤ 4294967280) (w : World) :
    Calls Tryd.prog 43 #[.string ⟨l.toArray⟩, .int .i64 (d : Int)] w fun e w' => e = .returned (.tuple #[.int .i64 ((readN l d).1 : Nat), .bool (readN l d).2]) ∧ w = w' := by
  obtain ⟨r, hr⟩ : ∃ r, readN l d = r := ⟨_, rfl⟩
  rw [hr]
  have HRD := Lib.hid hr
  clear hr
  obtain ⟨n, hn⟩ : ∃ n, l.length = n := ⟨_, rfl⟩
  have HL := Lib.hid hn
  have hix := Lib.hid (fun k (hk : k < n) w' => run_ix (P := Tryd.prog) 9 Tryd.underlying9 l k (by omega) w')
  obtain ⟨S, hS⟩ : ∃ S : ByteArray, ⟨l.toArray⟩ = S := ⟨_, rfl⟩
  have hsz : S.size = n := by rw [← hS]; exact hn
  rw [hS] at hix ⊢
  have HS := Lib.hid hS
  rw [hn] at hl
  clear hn hS
  by_cases h1 : n < 1
  · have HB := Lib.hid (show readB l d = false from readB_len (.inl (by rw [HL.out]; exact h1)))
    obtain rfl : r = (0, false) := by rw [← HRD.out]; unfold readN; rw [HB.out]; rfl
    have h1' : (n : Int) < 1 := by omega
    go_enter Tryd.func43, Tryd.ntmps43
    go_wp2
    go_ret2
    exact ⟨rfl, rfl⟩
  by_cases h2 : d < n
  · have HB := Lib.hid (show readB l d = false from readB_len (.inr (by rw [HL.out]; exact h2)))
    obtain rfl : r = (0, false) := by rw [← HRD.out]; unfold readN; rw [HB.out]; rfl
    have h1' : ¬ (n : Int) < 1 := by omega
    have h2' : (d : Int) < (n : Int) := by omega
    go_enter Tryd.func43, Tryd.ntmps43
    go_wp2
    go_ret2
    exact ⟨rfl, rfl⟩
  have h1' : ¬ (n : Int) < 1 := by omega
  have h2' : ¬ (d : Int) < (n : Int) := by omega
  obtain ⟨x0, hx0⟩ : ∃ x, byN l 0 = x := ⟨_, rfl⟩
  have i0 := hix.out 0 (by omega)
  rw [hx0] at i0
  have hx256 : x0 < 256 := by rw [← hx0]; exact byN_lt _ _
  have HX0 := Lib.hid hx0
  clear hx0
  simp only [Int.natCast_zero] at i0
  by_cases h3 : 1 < n ∧ x0 = 48
  · obtain ⟨h3, h4⟩ := h3
    have HB := Lib.hid (show readB l d = false from readB_zero (by rw [HL.out]; exact h3) (by rw [HX0.out]; exact h4))
    obtain rfl : r = (0, false) := by rw [← HRD.out]; unfold readN; rw [HB.out]; rfl
    have h3' : (1 : Int) < (n : Int) := by omega
    have h4' : ((x0 : Int) == 48) = true := by rw [beq_iff_eq]; omega
    clear h4
    go_enter Tryd.func43, Tryd.ntmps43
    go_wp2
    go_ret2
    exact ⟨rfl, rfl⟩
  have HN3 := Lib.hid h3
  rcases (show (¬ (1 : Int) < (n : Int)) ∨ ((1 : Int) < (n : Int) ∧ ((x0 : Int) == 48) = false) from by
    by_cases h : 1 < n
    · right
      exact ⟨by omega, by rw [beq_eq_false_iff_ne]; have := fun e => h3 ⟨h, e⟩; omega⟩
    · left; omega) with h3' | ⟨h3', h4'⟩
  all_goals clear h3
  all_goals go_enter Tryd.func43, Tryd.ntmps43
  all_goals go_wp2
  all_goals
    clear h1' h2' i0
    go_loop [6, 7] (fun v i => ∃ k : Nat, k ≤ n ∧ i = .int .i64 (k : Int) ∧ v = .int .i64 (numV (l.take k) : Nat) ∧ ∀ j, j < k → 48 ≤ byN l j ∧ byN l j ≤ 57) (fun _ i => n - (intOf i).toNat)
    case atStart => exact ⟨0, Nat.zero_le _, rfl, rfl, fun j hj => absurd hj (by omega)⟩
    case round =>
      obtain ⟨k, hk, rfl, rfl, hdig⟩ := hrel
      have HG := Lib.hid hdig
      clear hdig
      by_cases hlt : k < n
      · obtain ⟨x, hx⟩ : ∃ x, byN l k = x := ⟨_, rfl⟩
        have ik := hix.out k hlt
        rw [hx] at ik
        have hxx : x < 256 := by rw [← hx]; exact byN_lt _ _
        have HX := Lib.hid hx
        clear hx
        by_cases hlow : x < 48
        · have HB := Lib.hid (show readB l d = false from readB_dig (k := k) (by rw [HL.out]; exact hlt) (.inl (by rw [HX.out]; exact hlow)))
          obtain rfl : r = (0, false) := by rw [← HRD.out]; unfold readN; rw [HB.out]; rfl
          go_wp2
          go_ret2
          exact ⟨rfl, rfl⟩
        by_cases hhigh : 57 < x
        · have HB := Lib.hid (show readB l d = false from readB_dig (k := k) (by rw [HL.out]; exact hlt) (.inr (by rw [HX.out]; exact hhigh)))
          obtain rfl : r = (0, false) := by rw [← HRD.out]; unfold readN; rw [HB.out]; rfl
          go_wp2
          go_ret2
          exact ⟨rfl, rfl⟩
        have hsn := numV_snoc l (k := k) (by rw [HL.out]; exact hlt)
        rw [HX.out] at hsn
        have hsm := numV_small l k (by rw [HL.out]; exact hk)
        have hp : 10 ^ k ≤ 10 ^ 2 := Nat.pow_le_pow_right (by omega) (by omega)
        obtain ⟨acc, hacc⟩ : ∃ acc, numV (l.take k) = acc := ⟨_, rfl⟩
        rw [hacc] at hsn hsm ⊢
        have hb : acc ≤ 2400 := by omega
        have HSN := Lib.hid hsn
        have hsub : IntKind.u8.wrap ((x : Int) - 48) = (x : Int) - 48 := by
          simp [IntKind.wrap, IntKind.signed, IntKind.bits]; omega
        clear hsn hsm hp
        go_wp2
        go_round
        case rel =>
          refine ⟨k + 1, by omega, by go_num, ?_, ?_⟩
          · rw [HSN.out]; go_num
          · intro j hj
            by_cases e : j = k
            · subst e; rw [HX.out]; omega
            · exact HG.out j (by omega)
        case measure => simp [intOf]; omega
      · obtain rfl : k = n := by omega
        have HB := Lib.hid (show readB l d = true from readB_t (by rw [HL.out]; omega) (by rw [HL.out]; omega) (by rw [HL.out, HX0.out]; exact HN3.out) (by rw [HL.out]; exact HG.out))
        have HT := Lib.hid (show l.take k = l from List.take_of_length_le (by rw [HL.out]; exact Nat.le_refl _))
        obtain rfl : r = (numV l, true) := by rw [← HRD.out]; unfold readN; rw [HB.out]; rfl
        rw [HT.out]
        go_wp2
        go_ret2
        exact ⟨rfl, rfl⟩
set_option maxRecDepth 20000 in
set_option maxHeartbeats 2000000 in
theorem l1Read_any (l : Bs) (hl : l.length ≤ 4294967280) (w : World) :
    Calls Tryd.prog 46 #[.string ⟨l.toArray⟩] w fun e w' => e = .returned (.int .i64 (l1ReadL l)) ∧ w = w' := by
  obtain ⟨r, hr⟩ : ∃ r, l1ReadL l = r := ⟨_, rfl⟩
  rw [hr]
  have HRD := Lib.hid hr
  clear hr
  obtain ⟨n, hn⟩ : ∃ n, l.length = n := ⟨_, rfl⟩
  have HL := Lib.hid hn
  have hix := Lib.hid (fun k (hk : k < n) w' => run_ix (P := Tryd.prog) 9 Tryd.underlying9 l k (by omega) w')
  obtain ⟨S, hS⟩ : ∃ S : ByteArray, ⟨l.toArray⟩ = S := ⟨_, rfl⟩
  have hsz : S.size = n := by rw [← hS]; exact hn
  rw [hS] at hix ⊢
  have HS := Lib.hid hS
  rw [hn] at hl
  clear hn hS
  by_cases h1 : n < 1
  · have HB := Lib.hid (show readB l 5 = false from readB_len (.inl (by rw [HL.out]; exact h1)))
    obtain rfl : r = -1 := by rw [← HRD.out]; unfold l1ReadL; rw [HB.out]; rfl
    have h1' : inB 1 5 (n : Int) = false := by unfold inB; simp; omega
    go_enter Tryd.func46, Tryd.ntmps46
    go_wp2_with (go_at_call 62; refine (l1In_any _ _ _ _).mono ?_; rintro e w' ⟨rfl, rfl⟩)
    go_ret
    exact ⟨rfl, rfl⟩
  by_cases h2 : 5 < n
  · have HB := Lib.hid (show readB l 5 = false from readB_len (.inr (by rw [HL.out]; exact h2)))
    obtain rfl : r = -1 := by rw [← HRD.out]; unfold l1ReadL; rw [HB.out]; rfl
    have h2' : inB 1 5 (n : Int) = false := by unfold inB; simp; omega
    go_enter Tryd.func46, Tryd.ntmps46
    go_wp2_with (go_at_call 62; refine (l1In_any _ _ _ _).mono ?_; rintro e w' ⟨rfl, rfl⟩)
    go_ret
    exact ⟨rfl, rfl⟩
  have h2' : inB 1 5 (n : Int) = true := by unfold inB; simp; omega
  obtain ⟨x0, hx0⟩ : ∃ x, byN l 0 = x := ⟨_, rfl⟩
  have i0 := hix.out 0 (by omega)
  rw [hx0] at i0
  have hx256 : x0 < 256 := by rw [← hx0]; exact byN_lt _ _
  have HX0 := Lib.hid hx0
  clear hx0
  simp only [Int.natCast_zero] at i0
  by_cases h3 : 1 < n ∧ x0 = 48
  · obtain ⟨h3, h4⟩ := h3
    have HB := Lib.hid (show readB l 5 = false from readB_zero (by rw [HL.out]; exact h3) (by rw [HX0.out]; exact h4))
    obtain rfl : r = -1 := by rw [← HRD.out]; unfold l1ReadL; rw [HB.out]; rfl
    have h3' : (1 : Int) < (n : Int) := by omega
    have h4' : ((x0 : Int) == 48) = true := by rw [beq_iff_eq]; omega
    clear h4
    go_enter Tryd.func46, Tryd.ntmps46
    go_wp2_with (go_at_call 62; refine (l1In_any _ _ _ _).mono ?_; rintro e w' ⟨rfl, rfl⟩)
    go_ret
    exact ⟨rfl, rfl⟩
  have HN3 := Lib.hid h3
  rcases (show (¬ (1 : Int) < (n : Int)) ∨ ((1 : Int) < (n : Int) ∧ ((x0 : Int) == 48) = false) from by
    by_cases h : 1 < n
    · right
      exact ⟨by omega, by rw [beq_eq_false_iff_ne]; have := fun e => h3 ⟨h, e⟩; omega⟩
    · left; omega) with h3' | ⟨h3', h4'⟩
  all_goals clear h3
  all_goals go_enter Tryd.func46, Tryd.ntmps46
  all_goals go_wp2_with (go_at_call 62; refine (l1In_any _ _ _ _).mono ?_; rintro e w' ⟨rfl, rfl⟩)
  all_goals
    clear h2' i0
    go_loop [3, 4] (fun v i => ∃ k : Nat, k ≤ n ∧ i = .int .i64 (k : Int) ∧ v = .int .i64 (numV (l.take k) : Nat) ∧ ∀ j, j < k → 48 ≤ byN l j ∧ byN l j ≤ 57) (fun _ i => n - (intOf i).toNat)
    case atStart => exact ⟨0, Nat.zero_le _, rfl, rfl, fun j hj => absurd hj (by omega)⟩
    case round =>
      obtain ⟨k, hk, rfl, rfl, hdig⟩ := hrel
      have HG := Lib.hid hdig
      clear hdig
      by_cases hlt : k < n
      · obtain ⟨x, hx⟩ : ∃ x, byN l k = x := ⟨_, rfl⟩
        have ik := hix.out k hlt
        rw [hx] at ik
        have hxx : x < 256 := by rw [← hx]; exact byN_lt _ _
        have HX := Lib.hid hx
        clear hx
        by_cases hlow : x < 48
        · have HB := Lib.hid (show readB l 5 = false from readB_dig (k := k) (by rw [HL.out]; exact hlt) (.inl (by rw [HX.out]; exact hlow)))
          obtain rfl : r = -1 := by rw [← HRD.out]; unfold l1ReadL; rw [HB.out]; rfl
          go_wp2
          go_ret
          exact ⟨rfl, rfl⟩
        by_cases hhigh : 57 < x
        · have HB := Lib.hid (show readB l 5 = false from readB_dig (k := k) (by rw [HL.out]; exact hlt) (.inr (by rw [HX.out]; exact hhigh)))
          obtain rfl : r = -1 := by rw [← HRD.out]; unfold l1ReadL; rw [HB.out]; rfl
          go_wp2
          go_ret
          exact ⟨rfl, rfl⟩
        have hsn := numV_snoc l (k := k) (by rw [HL.out]; exact hlt)
        rw [HX.out] at hsn
        have hsm := numV_small l k (by rw [HL.out]; exact hk)
        have hp : 10 ^ k ≤ 10 ^ 5 := Nat.pow_le_pow_right (by omega) (by omega)
        obtain ⟨acc, hacc⟩ : ∃ acc, numV (l.take k) = acc := ⟨_, rfl⟩
        rw [hacc] at hsn hsm ⊢
        have hb : acc ≤ 2400000 := by omega
        have HSN := Lib.hid hsn
        have hsub : IntKind.u8.wrap ((x : Int) - 48) = (x : Int) - 48 := by
          simp [IntKind.wrap, IntKind.signed, IntKind.bits]; omega
        clear hsn hsm hp
        go_wp2
        go_round
        case rel =>
          refine ⟨k + 1, by omega, by go_num, ?_, ?_⟩
          · rw [HSN.out]; go_num
          · intro j hj
            by_cases e : j = k
            · subst e; rw [HX.out]; omega
            · exact HG.out j (by omega)
        case measure => simp [intOf]; omega
      · obtain rfl : k = n := by omega
        have HB := Lib.hid (show readB l 5 = true from readB_t (by rw [HL.out]; omega) (by rw [HL.out]; omega) (by rw [HL.out, HX0.out]; exact HN3.out) (by rw [HL.out]; exact HG.out))
        have HT := Lib.hid (show l.take k = l from List.take_of_length_le (by rw [HL.out]; exact Nat.le_refl _))
        obtain rfl : r = (numV l : Int) := by rw [← HRD.out]; unfold l1ReadL; rw [HB.out]; rfl
        rw [HT.out]
        go_wp2
        go_ret
        exact ⟨rfl, rfl⟩
end Go.Proofs.YtoahjfofnaafaaaDoor
