/- Walks: strings.Builder as this program bears it (WriteByte, WriteString, String), strconv.Itoa of small numbers. -/
import Derived.Test.YtoahjfofnaafaaaDoorWChg
import Derived.Test.YtoahjfofnaafaaaDoorWApp
import Derived.Test.YtoahjfofnaafaaaDoorShelf
import Derived.Lib.Builder
import Derived.Lib.AppendStr
namespace Go.Proofs.YtoahjfofnaafaaaDoor
open Go.RowKit

theorem infoByte : (Tryd.prog.info? 5).map (fun i => (i.zero, i.size, i.bytes)) = some (some (.int .u8 0), 1, 1) := by kernel_rfl
theorem Chg.below {b hi : Nat} {w w' : World} (h : Chg b hi w w') (hb : b ≤ w.heap.size) : Below b w w' := ⟨h.os, h.tape, h.output, h.size, fun k hk => h.block k (Nat.lt_of_lt_of_le hk hb) (.inl hk)⟩
/-- blocks that are not b and no rows of bytes stand as they stood -/
def Kept (b : Nat) (w w' : World) : Prop := ∀ g t cs, Blk w g t cs → g ≠ b → t ≠ 5 → Blk w' g t cs
theorem Kept.refl (b : Nat) (w : World) : Kept b w w := fun _ _ _ h _ _ => h
theorem Kept.trans {b : Nat} {w w1 w2 : World} (h : Kept b w w1) (k : Kept b w1 w2) : Kept b w w2 := fun g t cs hb h1 h2 => k g t cs (h g t cs hb h1 h2) h1 h2
theorem Kept.le {b : Nat} {w w' : World} (h : Le w w') : Kept b w w' := fun _ _ _ hb _ _ => hb.le h
theorem Kept.set {b : Nat} (w : World) (i : Nat) (u : Value) : Kept b w (w.setCell ⟨b, i, none⟩ u) := fun _ _ _ hb h1 _ => hb.far (p := ⟨b, i, none⟩) h1 u
theorem Kept.row {b base : Nat} {w w' : World} {v : Value} {n : Nat} {xs : List Value} (h : w.ownsRow base 5 1 v n xs) (hg : w.grownBy w' v.ownBlock) : Kept b w w' := fun g t cs hb _ h2 => by
  refine hb.grown hg fun e => ?_
  rcases h.2 with ⟨rfl, _⟩ | ⟨g', cap, cur, rfl, _, hh, _⟩
  · cases e
  · injection e with e
    subst e
    unfold Blk at hb
    rw [hh] at hb
    injection hb with hb
    injection hb with _ hb _
    exact h2 hb.symm

/-- block b is a builder that holds these bytes; below b all is as it was in w1 -/
structure BT (w1 wr : World) (b : Nat) (l : List UInt8) : Prop where
  ex : ∃ p v, Blk wr b 84 #[p, v] ∧ (p = .pointer none ∨ p = .pointer (some ⟨b, 0, none⟩)) ∧ wr.ownsRow b 5 1 v l.length (Lib.byteCells l) ∧ v.ownBlock ≠ some b
  low : Below b w1 wr
theorem BT.sz {w1 wr : World} {b : Nat} {l : List UInt8} (h : BT w1 wr b l) : b < wr.heap.size := by
  obtain ⟨p, v, hb, _⟩ := h.ex
  exact hb.lt
theorem BT.alloc {w1 wr : World} {b : Nat} {l : List UInt8} (h : BT w1 wr b l) (o : Obj) : BT w1 (wr.alloc o) b l := by
  have hs := h.sz
  obtain ⟨p, v, hb, hp, ho, hv⟩ := h.ex
  exact ⟨⟨p, v, hb.alloc o, hp, ho.alloc o, hv⟩, h.low.alloc (Nat.le_of_lt hs) o⟩
theorem BT.fresh (w : World) : BT w (w.alloc (.cells #[.pointer none, .slice none 0 0] 84)) w.heap.size [] :=
  ⟨⟨_, _, Blk.new _ _ _, .inl rfl, World.ownsRow_nil _ _ _ _, by simp [Value.ownBlock]⟩, (Below.refl _ _).alloc (Nat.le_refl _) _⟩

theorem sizeBuilder : (Tryd.prog.info? 84).map (·.size) = some 2 := by kernel_rfl
theorem liesBuilder : liesAt Tryd.prog Tryd.prog.depth 84 (2 / Tryd.prog.cellsOf 84) 0 84 1 = true := by kernel_rfl
theorem Blk.shape {w : World} {g : Nat} {t : TypeId} {cs : Array Value} (h : Blk w g t cs) : w.shape? g = some (t, cs.size) := by
  unfold Blk at h
  simp [World.shape?, h]
set_option maxHeartbeats 1000000 in
set_option maxRecDepth 100000 in
theorem copyCheck_any (b : Nat) (p v : Value) (w : World) (hb : Blk w b 84 #[p, v]) (hp : p = .pointer none ∨ p = .pointer (some ⟨b, 0, none⟩)) :
    Calls Tryd.prog 81 #[.pointer (some ⟨b, 0, none⟩)] w fun e w' => e = .returned (.tuple #[]) ∧ Blk w' b 84 #[.pointer (some ⟨b, 0, none⟩), v] ∧ Chg b (b + 1) w w' ∧ Kept b w w' := by
  have a0 := hb.cell 0
  have z0 := hb.frozen 0
  have hsh := hb.shape
  obtain ⟨j, hj, hjs⟩ := Option.map_eq_some_iff.1 sizeBuilder
  simp at a0
  rcases hp with rfl | rfl
  · have k1 := hb.set_ 0 (.pointer (some ⟨b, 0, none⟩))
    have c1 : Chg b (b + 1) w (w.setCell ⟨b, 0, none⟩ (.pointer (some ⟨b, 0, none⟩))) := Chg.set (Nat.le_refl _) (Nat.lt_succ_self _) _ _
    have d1 := Kept.set (b := b) w 0 (.pointer (some ⟨b, 0, none⟩))
    simp at k1
    have K1 := Lib.hid k1
    have C1 := Lib.hid c1
    have D1 := Lib.hid d1
    have HJ := Lib.hid hj
    have HJS := Lib.hid hjs
    have HSH := Lib.hid hsh
    clear k1 c1 hb d1 hj hjs hsh
    go_enter Tryd.func81, Tryd.ntmps81
    go_wp2
    rw [Lib.run_to_unsafe w ⟨b, 0, none⟩ Tryd.underlying82 Tryd.underlying122 HJ.out (by rw [HJS.out]; decide) HSH.out (Nat.zero_lt_succ 1)]
    simp only [Result.andThen]
    rw [Oper.upon_value]
    go_wp2
    rw [run_callFunc_extern Tryd.func88 (by kernel_rfl) (by kernel_rfl) (by kernel_rfl) (e := Extern.AbiNoEscape.same) (by kernel_rfl)]
    rw [Lib.run_noEscape]
    simp only [Result.andThen]
    rw [Oper.upon_value]
    go_wp2
    rw [Lib.run_from_unsafe w ⟨b, 0, none⟩ Tryd.underlying122 Tryd.underlying82 HJ.out HSH.out liesBuilder]
    simp only [Result.andThen]
    rw [Oper.upon_value]
    go_wp2
    go_end0
    exact ⟨rfl, K1.out, C1.out, D1.out⟩
  · have HJ := Lib.hid hj
    have HB := Lib.hid hb
    clear hj hjs hsh hb
    go_enter Tryd.func81, Tryd.ntmps81
    go_wp2
    rw [Lib.run_neq_ptr_same w _ Tryd.underlying82 HJ.out]
    go_wp2
    go_end0
    exact ⟨rfl, HB.out, Chg.refl _ _ _, Kept.refl _ _⟩

set_option maxHeartbeats 2000000 in
set_option maxRecDepth 100000 in
theorem wByte_any (c : UInt8) (k : Int) (hk : (c.toNat : Int) = k) (w1 wr : World) (b : Nat) (l : List UInt8) (h : BT w1 wr b l) (hl : l.length ≤ 1000) :
    Calls Tryd.prog 50 #[.pointer (some ⟨b, 0, none⟩), .int .u8 k] wr fun e w' => e = .returned .nilIface ∧ BT w1 w' b (l ++ [c]) ∧ Kept b wr w' := by
  obtain ⟨i0, hi, hz0, hz1, hz2⟩ := info_parts infoByte
  have hlow := h.low
  obtain ⟨p, v, hb, hp, ho, hv⟩ := h.ex
  have hbw := hb.lt
  have hcc := copyCheck_any b p v wr hb hp
  have HC := Lib.hid hcc
  clear h hcc hb
  go_enter Tryd.func50, Tryd.ntmps50
  go_wp2_with fail
  refine HC.out.mono ?_; rintro e w2 ⟨rfl, hb, hc, hkp⟩
  have ho2 := Chg.own ho hc (fun g hg => by
    have h1 := (ho.lt g hg).1
    have h2 : g ≠ b := fun e => hv (e ▸ hg)
    omega)
  have c0 := hb.cell 0
  have c1 := hb.cell 1
  simp at c0 c1
  have hbl := hb.lt
  go_wp2_with (at_builtin; refine wpList_append_own _ rfl _ _ 22 rfl b 5 i0 (.int .u8 0) 1 1 Tryd.underlying22 hi hz0 hz1 hz2 rfl (by decide) _ _ _ rfl (ho2.alloc _) ⟨w2.heap.size, 0, none⟩ 1 1 [.int .u8 k] rfl rfl ?c1 ?c2 ?c3 ?c4 ?c5 ?_)
  case c1 =>
    intro j u hj
    match j, hj with
    | 0, hj => simp at hj; subst hj; simp [Addr.add]
  case c2 => intro u hu; simp at hu; subst hu; rfl
  case c3 => unfold maxLen; omega
  case c4 => omega
  case c5 => simp; omega
  intro v' w3 hown' hgrow _
  have hb3 : Blk w3 b 84 #[.pointer (some ⟨b, 0, none⟩), v] := (hb.alloc _).grown hgrow (fun e => hv e.symm)
  have d0 := hb3.cell 0
  have d1 := hb3.cell 1
  have f1 := hb3.frozen 1
  simp at d0 d1
  obtain ⟨g, cap, rfl⟩ : ∃ g cap, v' = .slice (some ⟨g, 0, none⟩) (l.length + 1) cap := by
    rcases hown'.2 with ⟨_, h0⟩ | ⟨g, cap, cur, hv', _⟩
    · omega
    · exact ⟨g, cap, hv'⟩
  have hgb : (Value.slice (some ⟨g, 0, none⟩) (l.length + 1) cap).ownBlock ≠ some b := fun e => by
    have e : g = b := by injection e
    subst e
    rcases hown'.2 with ⟨hx, _⟩ | ⟨g', cap', cur, hx, _, hh, _⟩
    · cases hx
    · injection hx with hx
      injection hx with hx
      injection hx with hx
      subst hx
      unfold Blk at hb3
      rw [hh] at hb3
      injection hb3 with hb3
      injection hb3 with _ hb3 _
      exact absurd hb3 (by decide)
  have k5 := hb3.set_ 1 (.slice (some ⟨g, 0, none⟩) (l.length + 1) cap)
  simp at k5
  have o5 := own_far (p := ⟨b, 1, none⟩) hown' hgb (.slice (some ⟨g, 0, none⟩) (l.length + 1) cap)
  have hb2 : Below b wr w2 := hc.below (Nat.le_of_lt hbw)
  have K5 := Lib.hid k5
  have O5 := Lib.hid o5
  have L5 := Lib.hid ((((hlow.trans hb2).alloc (by omega) (.cells #[.int .u8 k] 5)).grown hgrow (by simp; omega) (fun g hg => (ho2.lt g hg).1)).setCell (p := ⟨b, 1, none⟩) (Nat.le_refl b) (.slice (some ⟨g, 0, none⟩) (l.length + 1) cap))
  have Q5 := Lib.hid (hkp.trans ((Kept.le ((Le.refl w2).alloc (.cells #[.int .u8 k] 5))).trans ((Kept.row (ho2.alloc _) hgrow).trans (Kept.set (b := b) w3 1 (.slice (some ⟨g, 0, none⟩) (l.length + 1) cap)))))
  clear k5 o5 hgrow hown' hb3 hb ho2 ho hlow hkp hc hb2
  go_wp2
  go_ret
  refine ⟨rfl, ⟨⟨_, _, K5.out, .inr rfl, ?_, hgb⟩, L5.out⟩, Q5.out⟩
  rw [Lib.byteCells_append, List.length_append]
  have := O5.out
  subst hk
  exact this

set_option maxHeartbeats 2000000 in
set_option maxRecDepth 100000 in
theorem wString_any (s : List UInt8) (w1 wr : World) (b : Nat) (l : List UInt8) (h : BT w1 wr b l) (hl : l.length + s.length ≤ 1000) :
    Calls Tryd.prog 48 #[.pointer (some ⟨b, 0, none⟩), .string ⟨s.toArray⟩] wr fun e w' => e = .returned (.tuple #[.int .i64 s.length, .nilIface]) ∧ BT w1 w' b (l ++ s) ∧ Kept b wr w' := by
  obtain ⟨i0, hi, hz0, hz1, hz2⟩ := info_parts infoByte
  have hlow := h.low
  obtain ⟨p, v, hb, hp, ho, hv⟩ := h.ex
  have hbw := hb.lt
  have hss : (⟨s.toArray⟩ : ByteArray).size = s.length := rfl
  have hcc := copyCheck_any b p v wr hb hp
  have HC := Lib.hid hcc
  have HSS := Lib.hid hss
  clear h hcc hb hss
  go_enter Tryd.func48, Tryd.ntmps48
  go_wp2_with fail
  refine HC.out.mono ?_; rintro e w2 ⟨rfl, hb, hc, hkp⟩
  have ho2 := Chg.own ho hc (fun g hg => by
    have h1 := (ho.lt g hg).1
    have h2 : g ≠ b := fun e => hv (e ▸ hg)
    omega)
  have c0 := hb.cell 0
  have c1 := hb.cell 1
  simp at c0 c1
  have hbl := hb.lt
  go_wp2_with (at_builtin; refine Lib.wpList_append_own_string _ rfl _ _ 22 9 rfl b 5 i0 Tryd.underlying22 Tryd.underlying9 hi hz0 hz1 hz2 _ _ _ rfl ho2 ⟨s.toArray⟩ rfl ?c3 ?c4 ?c5 ?_)
  case c3 => rw [HSS.out]; unfold maxLen; omega
  case c4 => rw [HSS.out]; omega
  case c5 => omega
  intro v' w3 hown' hgrow _
  have hb3 : Blk w3 b 84 #[.pointer (some ⟨b, 0, none⟩), v] := hb.grown hgrow (fun e => hv e.symm)
  have d0 := hb3.cell 0
  have d1 := hb3.cell 1
  have f1 := hb3.frozen 1
  simp at d0 d1
  have hown' : w3.ownsRow b 5 1 v' (l.length + s.length) (Lib.byteCells l ++ Lib.strCells ⟨s.toArray⟩) := hown'
  obtain ⟨ao, n', cap, rfl⟩ : ∃ ao n' cap, v' = .slice ao n' cap := by
    rcases hown'.2 with ⟨hv', _⟩ | ⟨g, cap, cur, hv', _⟩
    · exact ⟨_, _, _, hv'⟩
    · exact ⟨_, _, _, hv'⟩
  have hgb : (Value.slice ao n' cap).ownBlock ≠ some b := fun e => by
    rcases hown'.2 with ⟨hx, _⟩ | ⟨g', cap', cur, hx, _, hh, _⟩
    · rw [hx] at e; cases e
    · rw [hx] at e
      have e : g' = b := by injection e
      subst e
      unfold Blk at hb3
      rw [hh] at hb3
      injection hb3 with hb3
      injection hb3 with _ hb3 _
      exact absurd hb3 (by decide)
  have k5 := hb3.set_ 1 (.slice ao n' cap)
  simp at k5
  have o5 := own_far (p := ⟨b, 1, none⟩) hown' hgb (.slice ao n' cap)
  have hb2 : Below b wr w2 := hc.below (Nat.le_of_lt hbw)
  have K5 := Lib.hid k5
  have O5 := Lib.hid o5
  have L5 := Lib.hid (((hlow.trans hb2).grown hgrow (by omega) (fun g hg => (ho2.lt g hg).1)).setCell (p := ⟨b, 1, none⟩) (Nat.le_refl b) (.slice ao n' cap))
  have Q5 := Lib.hid (hkp.trans ((Kept.row ho2 hgrow).trans (Kept.set (b := b) w3 1 (.slice ao n' cap))))
  clear k5 o5 hgrow hown' hb3 hb ho2 ho hlow hkp hc hb2
  go_wp2
  go_ret2
  refine ⟨rfl, ⟨⟨_, _, K5.out, .inr rfl, ?_, hgb⟩, L5.out⟩, Q5.out⟩
  rw [Lib.byteCells_append, List.length_append]
  exact O5.out
theorem bString_any (w1 wr : World) (b : Nat) (l : List UInt8) (h : BT w1 wr b l) :
    Calls Tryd.prog 51 #[.pointer (some ⟨b, 0, none⟩)] wr fun e w' => e = .returned (.string ⟨l.toArray⟩) ∧ Below b w1 w' := by
  have hs := h.sz
  have hbld : Lib.IsBuilder 84 5 b b (Lib.byteCells l) wr := by
    obtain ⟨p, v, hb, hp, ho, hv⟩ := h.ex
    rcases hp with rfl | rfl
    · exact .inl ⟨Nat.le_refl _, v, hb, by rw [Lib.byteCells_length]; exact ho, hv⟩
    · exact .inr ⟨Nat.le_refl _, v, hb, by rw [Lib.byteCells_length]; exact ho, hv⟩
  refine (Tryd.Builder_String_any b b l wr hbld (Nat.le_of_lt hs)).mono ?_
  rintro e w' ⟨rfl, h2⟩
  exact ⟨rfl, Below.trans h.low h2⟩
end Go.Proofs.YtoahjfofnaafaaaDoor
