/- Walk: l1Cut of the reference; rows of texts. -/
import Derived.Test.YtoahjfofnaafaaaDoorWRead
import Derived.Test.YtoahjfofnaafaaaDoorWApp
namespace Go.Proofs.YtoahjfofnaafaaaDoor
open Go.RowKit

def strs (ps : List Bs) : List Value := ps.map fun p => .string ⟨p.toArray⟩
theorem strs_snoc (ps : List Bs) (p : Bs) : strs (ps ++ [p]) = strs ps ++ [.string ⟨p.toArray⟩] := by simp [strs]
theorem strs_length (ps : List Bs) : (strs ps).length = ps.length := by simp [strs]
theorem strs_get {ps : List Bs} {k : Nat} (h : k < ps.length) : (strs ps)[k]? = some (.string ⟨(ps.getD k []).toArray⟩) := by
  unfold strs; rw [List.getElem?_map, List.getD_eq_getElem?_getD, List.getElem?_eq_getElem h]; rfl
/-- the slice '.slice A n c' can be read as these texts -/
structure RSt (w : World) (A : Option Addr) (n : Nat) (ps : List Bs) : Prop where
  len : ps.length = n
  max : n ≤ 9223372036854775807
  at_ : ∀ k, k < n → ∃ ad, A = some ad ∧ w.cell? (ad.add k) = some (.string ⟨(ps.getD k []).toArray⟩)
theorem RSt.le {w w' : World} {A : Option Addr} {n : Nat} {ps : List Bs} (h : RSt w A n ps) (hl : Le w w') : RSt w' A n ps :=
  ⟨h.len, h.max, fun k hk => let ⟨ad, e, hc⟩ := h.at_ k hk; ⟨ad, e, hl.cell hc⟩⟩
theorem own_RSt {w : World} {base : Nat} {e : TypeId} {v : Value} {n : Nat} {ps : List Bs} (h : w.ownsRow base e 1 v n (strs ps)) (hm : n ≤ 9223372036854775807) :
    ∃ A c, v = .slice A n c ∧ RSt w A n ps := by
  have hl : ps.length = n := by have := h.1; rw [strs_length] at this; omega
  rcases h.2 with ⟨rfl, rfl⟩ | ⟨g, cap, cur, rfl, hb, hg, hn, hcm, hs, ht⟩
  · exact ⟨none, 0, rfl, hl, hm, fun k hk => absurd hk (by omega)⟩
  · refine ⟨_, _, rfl, hl, hm, fun k hk => ⟨_, rfl, ?_⟩⟩
    have := h.cells (g := g) rfl k _ (strs_get (by omega))
    exact this
theorem infoStr : (Tryd.prog.info? 9).map (fun i => (i.zero, i.size, i.bytes)) = some (some (.string ⟨#[]⟩), 1, 16) := by kernel_rfl
theorem run_sl {P : Program} (t : TypeId) (ht : P.underlying t = some .string) (l : Bs) (i j : Nat) (hij : i ≤ j) (hj : j ≤ l.length) (w : World) :
    (Instr.slice t (.string ⟨l.toArray⟩) (some (.int .i64 (i : Int))) (some (.int .i64 (j : Int))) none).run P w = .ok (.string ⟨((l.drop i).take (j - i)).toArray⟩) w := by
  rw [run_slice_string w t ⟨l.toArray⟩ .i64 .i64 (i : Int) (j : Int) ht (by omega) (by omega) (by rw [size_bs]; omega), ByteArray.extract_mk]; rfl
theorem run_sl_from {P : Program} (t : TypeId) (ht : P.underlying t = some .string) (l : Bs) (i : Nat) (hi : i ≤ l.length) (w : World) :
    (Instr.slice t (.string ⟨l.toArray⟩) (some (.int .i64 (i : Int))) none none).run P w = .ok (.string ⟨(l.drop i).toArray⟩) w := by
  rw [run_slice_string_from_if w t ⟨l.toArray⟩ .i64 (i : Int) ht, if_pos ⟨by omega, by rw [size_bs]; omega⟩, ByteArray.extract_mk, size_bs]
  rw [show (l.drop (i : Int).toNat).take (l.length - (i : Int).toNat) = l.drop i from by
    rw [Int.toNat_natCast]; exact List.take_of_length_le (by rw [List.length_drop]; exact Nat.le_refl _)]
/-- how far the cutting is: what is cut off, and where the rest begins -/
structure CutTo (c : UInt8) (l : Bs) (ps : List Bs) (f k : Nat) : Prop where
  le : f ≤ k
  all : pieces c l = ps ++ pieces c (l.drop f)
  no : c ∉ (l.drop f).take (k - f)
theorem CutTo.zero (c : UInt8) (l : Bs) : CutTo c l [] 0 0 := ⟨Nat.le_refl _, by simp, by simp⟩
theorem take_grow {l : Bs} {f k : Nat} (h : f ≤ k) (hk : k < l.length) : (l.drop f).take (k + 1 - f) = (l.drop f).take (k - f) ++ [l.getD k 0] := by
  rw [show k + 1 - f = (k - f) + 1 by omega, List.take_add_one, List.getElem?_drop, show f + (k - f) = k by omega, List.getElem?_eq_getElem hk, List.getD_eq_getElem?_getD, List.getElem?_eq_getElem hk]; rfl
theorem CutTo.pass {c : UInt8} {l : Bs} {ps : List Bs} {f k : Nat} (h : CutTo c l ps f k) (hk : k < l.length) (hb : l.getD k 0 ≠ c) : CutTo c l ps f (k + 1) := by
  refine ⟨by have := h.le; omega, h.all, ?_⟩
  rw [take_grow h.le hk, List.mem_append, not_or]
  exact ⟨h.no, by rw [List.mem_singleton]; exact fun e => hb e.symm⟩
theorem CutTo.cut {c : UInt8} {l : Bs} {ps : List Bs} {f k : Nat} (h : CutTo c l ps f k) (hk : k < l.length) (hb : l.getD k 0 = c) : CutTo c l (ps ++ [(l.drop f).take (k - f)]) (k + 1) (k + 1) := by
  refine ⟨Nat.le_refl _, ?_, by rw [Nat.sub_self, List.take_zero]; simp⟩
  have e : l.drop f = (l.drop f).take (k - f) ++ c :: l.drop (k + 1) := by
    have h1 := (List.take_append_drop (k + 1 - f) (l.drop f)).symm
    rw [take_grow h.le hk, hb, List.drop_drop, show f + (k + 1 - f) = k + 1 by have := h.le; omega] at h1
    rw [List.append_assoc] at h1
    exact h1
  rw [h.all, List.append_assoc]
  congr 1
  conv => lhs; rw [e]
  rw [pieces_at _ h.no]
  rfl
theorem CutTo.end_ {c : UInt8} {l : Bs} {ps : List Bs} {f k : Nat} (h : CutTo c l ps f k) (hk : k = l.length) : pieces c l = ps ++ [l.drop f] := by
  rw [h.all]
  congr 1
  refine pieces_no ?_
  have := h.no
  rwa [List.take_of_length_le (by rw [List.length_drop, hk]; exact Nat.le_refl _)] at this
theorem byN_eq {l : Bs} {k : Nat} {c : UInt8} (h : byN l k = c.toNat) : l.getD k 0 = c := UInt8.toNat_inj.1 h
theorem byN_ne {l : Bs} {k : Nat} {c : UInt8} (h : byN l k ≠ c.toNat) : l.getD k 0 ≠ c := fun e => h (by unfold byN; rw [e])

set_option maxRecDepth 20000 in
set_option maxHeartbeats 2000000 in
theorem l1Cut_any (l : Bs) (cs : UInt8) (hl : l.length ≤ 1048577) (w : World) :
    Calls Tryd.prog 45 #[.string ⟨l.toArray⟩, .int .u8 (cs.toNat : Int)] w fun e w' => ∃ A d, e = .returned (.slice A (pieces cs l).length d) ∧ RSt w' A (pieces cs l).length (pieces cs l) ∧ (∀ ad : Addr, A = some ad → w.heap.size ≤ ad.block) ∧ Le w w' := by
  obtain ⟨i0, hi0, hz0, hz1, hz2⟩ := info_parts infoStr
  obtain ⟨n, hn⟩ : ∃ n, l.length = n := ⟨_, rfl⟩
  have HL := Lib.hid hn
  have hix := Lib.hid (fun k (hk : k < n) w' => run_ix (P := Tryd.prog) 9 Tryd.underlying9 l k (by omega) w')
  have hsl := Lib.hid (fun i j (hij : i ≤ j) (hj : j < n) w' => run_sl (P := Tryd.prog) 9 Tryd.underlying9 l i j hij (by omega) w')
  have hsf := Lib.hid (fun i (hi : i ≤ n) w' => run_sl_from (P := Tryd.prog) 9 Tryd.underlying9 l i (by omega) w')
  obtain ⟨S, hS⟩ : ∃ S : ByteArray, ⟨l.toArray⟩ = S := ⟨_, rfl⟩
  have hsz : S.size = n := by rw [← hS]; exact hn
  rw [hS] at hix hsl hsf ⊢
  rw [hn] at hl
  obtain ⟨cn, hcn⟩ : ∃ cn, cs.toNat = cn := ⟨_, rfl⟩
  have HC := Lib.hid hcn
  rw [hcn]
  have HO := Lib.hid (own_empty w 9 1)
  clear hn hS hcn
  go_enter Tryd.func45, Tryd.ntmps45
  go_wp2
  go_loopw [5, 6, 7] (fun v fr i wr => ∃ (k f : Nat) (ps : List Bs), k ≤ n ∧ i = .int .i64 (k : Int) ∧ fr = .int .i64 (f : Int) ∧ ps.length ≤ f ∧ v ≠ .slice none 0 0 ∧ wr.ownsRow w.heap.size 9 1 v ps.length (strs ps) ∧ CutTo cs l ps f k ∧ Le w wr) (fun _ _ i _ => n - (intOf i).toNat)
  case atStart => exact ⟨0, 0, [], Nat.zero_le _, rfl, rfl, Nat.le_refl _, (fun e => by cases e), HO.out, CutTo.zero _ _, (Le.refl _).alloc _⟩
  case round =>
    obtain ⟨k, f, ps, hk, rfl, rfl, hpf, hnn, hown, hcut, hle⟩ := hrel
    obtain ⟨gv, cap, rfl, hgv, hcap, hcm⟩ : ∃ gv cap, u5 = .slice (some ⟨gv, 0, none⟩) ps.length cap ∧ w.heap.size ≤ gv ∧ ps.length ≤ cap ∧ cap ≤ maxLen := by
      rcases hown.2 with ⟨e, _⟩ | ⟨g', cap', cur, e, h1, _, h2, h3, _⟩
      · exact absurd e hnn
      · exact ⟨g', cap', e, h1, h2, h3⟩
    have hfk := hcut.le
    have OW := Lib.hid hown
    have CT := Lib.hid hcut
    have LE := Lib.hid hle
    have hsize := hle.size
    clear hown hcut hle hnn
    by_cases hlt : k < n
    · obtain ⟨x, hx⟩ : ∃ x, byN l k = x := ⟨_, rfl⟩
      have ik := hix.out k hlt
      rw [hx] at ik
      have HX := Lib.hid hx
      clear hx
      by_cases hxc : x = cn
      · have hb : ((x : Int) == (cn : Int)) = true := by rw [beq_iff_eq]; omega
        have HXC := Lib.hid hxc
        clear hxc
        have sl := hsl.out f k hfk hlt
        obtain ⟨q, hq⟩ : ∃ q, (l.drop f).take (k - f) = q := ⟨_, rfl⟩
        rw [hq] at sl
        have HQ := Lib.hid hq
        clear hq
        obtain ⟨Q, hQ⟩ : ∃ Q : ByteArray, ⟨q.toArray⟩ = Q := ⟨_, rfl⟩
        rw [hQ] at sl
        have HQ2 := Lib.hid hQ
        clear hQ
        go_wp2_with (at_builtin; refine wpList_append_own _ rfl _ _ 70 rfl w.heap.size 9 i0 _ 1 16 Tryd.underlying70 hi0 hz0 hz1 hz2 rfl (by decide) _ ps.length (strs ps) rfl (OW.out.alloc _) ⟨wr.heap.size, 0, none⟩ 1 1 [.string Q] rfl rfl ?c1 ?c2 ?c3 ?c4 ?c5 ?_)
        case c1 => exact cell_one' wr _ rfl _ _
        case c2 => intro u hu; simp at hu; rcases hu with rfl; rfl
        case c3 => unfold maxLen; omega
        case c4 => omega
        case c5 => simp; omega
        intro v' w4 hown' hgrow hnil
        have la := (Le.refl wr).alloc (.cells #[.string Q] 9)
        have LE4 := Lib.hid ((LE.out.trans la).grown hgrow (fun q hq => (OW.out.lt q hq).1))
        have HN := Lib.hid (show v' ≠ .slice none 0 0 from hnil)
        have OW4 := Lib.hid hown'
        clear hown' hgrow hnil la
        go_wp2
        go_roundw
        case rel =>
          refine ⟨k + 1, k + 1, ps ++ [q], by omega, by go_num, by go_num, by rw [List.length_append]; simp; omega, HN.out, ?_, ?_, LE4.out⟩
          · rw [strs_snoc, HQ2.out, List.length_append]
            exact OW4.out
          · rw [← HQ.out]
            exact CT.out.cut (by rw [HL.out]; exact hlt) (byN_eq (by rw [HX.out, HXC.out, HC.out]))
        case measure => simp [intOf]; omega
      · have hb : ((x : Int) == (cn : Int)) = false := by rw [beq_eq_false_iff_ne]; omega
        have HXC := Lib.hid hxc
        clear hxc
        go_wp2
        go_roundw
        case rel => exact ⟨k + 1, f, ps, by omega, by go_num, rfl, hpf, (fun e => by cases e), OW.out, CT.out.pass (by rw [HL.out]; exact hlt) (byN_ne (by rw [HX.out, HC.out]; exact HXC.out)), LE.out⟩
        case measure => simp [intOf]; omega
    · obtain rfl : k = n := by omega
      have HE := Lib.hid (CT.out.end_ HL.out.symm)
      have sf := hsf.out f hfk
      obtain ⟨q, hq⟩ : ∃ q, l.drop f = q := ⟨_, rfl⟩
      rw [hq] at sf HE
      clear hq
      obtain ⟨Q, hQ⟩ : ∃ Q : ByteArray, ⟨q.toArray⟩ = Q := ⟨_, rfl⟩
      rw [hQ] at sf
      have HQ2 := Lib.hid hQ
      clear hQ
      go_wp2_with (at_builtin; refine wpList_append_own _ rfl _ _ 70 rfl w.heap.size 9 i0 _ 1 16 Tryd.underlying70 hi0 hz0 hz1 hz2 rfl (by decide) _ ps.length (strs ps) rfl (OW.out.alloc _) ⟨wr.heap.size, 0, none⟩ 1 1 [.string Q] rfl rfl ?c1 ?c2 ?c3 ?c4 ?c5 ?_)
      case c1 => exact cell_one' wr _ rfl _ _
      case c2 => intro u hu; simp at hu; rcases hu with rfl; rfl
      case c3 => unfold maxLen; omega
      case c4 => omega
      case c5 => simp; omega
      intro v' w4 hown' hgrow hnil
      have la := (Le.refl wr).alloc (.cells #[.string Q] 9)
      have LE4 := Lib.hid ((LE.out.trans la).grown hgrow (fun q hq => (OW.out.lt q hq).1))
      rw [← HQ2.out, ← strs_snoc, ← HE.out, show ps.length + 1 = (pieces cs l).length by rw [HE.out, List.length_append]; rfl] at hown'
      obtain ⟨A, d, rfl, hr⟩ := own_RSt hown' (by rw [HE.out, List.length_append]; simp; omega)
      have HR := Lib.hid hr
      have HNW := Lib.hid (show ∀ ad : Addr, A = some ad → w.heap.size ≤ ad.block from fun ad e => by subst e; exact (hown'.lt ad.block rfl).1)
      clear hown' hgrow hnil la hr
      go_wp2
      go_ret
      exact ⟨A, d, rfl, HR.out, HNW.out, LE4.out⟩
end Go.Proofs.YtoahjfofnaafaaaDoor
