/- Walks: strings.Cut and strings.Split as this program uses them; readParts of the program. -/
import Derived.Test.YtoahjfofnaafaaaDoorWCut
import Derived.Test.YtoahjfofnaafaaaDoorShelf
import Derived.Lib.Split
namespace Go.Proofs.YtoahjfofnaafaaaDoor
open Go.RowKit

/-- the package's first variable (a bound of the library's) has a value -/
def CM (w : World) : Prop := ∃ m, w.cell? ⟨0, 0, none⟩ = some (.int .i64 m)
theorem CM.le {w w' : World} (h : CM w) (hl : Le w w') : CM w' := let ⟨m, e⟩ := h; ⟨m, hl.cell e⟩
theorem cut_any (l : Bs) (c : UInt8) (hl : l.length < 4294967281) (w : World) (hm : CM w) :
    Calls Tryd.prog 42 #[.string ⟨l.toArray⟩, .string ⟨#[c]⟩] w fun e w' => e = .returned (.tuple #[.string ⟨(Lib.cut l [c]).1.toArray⟩, .string ⟨(Lib.cut l [c]).2.1.toArray⟩, .bool (Lib.cut l [c]).2.2]) ∧ Le w w' := by
  obtain ⟨m, hm⟩ := hm
  exact (Tryd.strings_Cut ⟨l.toArray⟩ ⟨#[c]⟩ m w hl hm).mono fun e w' ⟨he, n, hw⟩ => ⟨he, by rw [hw]; exact (Le.refl w).drewN n⟩
theorem cut_len (l : Bs) (c : UInt8) : (Lib.cut l [c]).1.length ≤ l.length ∧ (Lib.cut l [c]).2.1.length ≤ l.length := by
  rcases first_at c l with h | ⟨a, b, h, rfl⟩
  · rw [cut_no h]; exact ⟨Nat.le_refl _, Nat.zero_le _⟩
  · rw [cut_at b h]; simp; omega
theorem piece_len (c : UInt8) : ∀ (n : Nat) (l : Bs), l.length ≤ n → ∀ p ∈ pieces c l, p.length ≤ l.length := by
  intro n
  induction n with
  | zero =>
    intro l h p hp
    obtain rfl : l = [] := List.length_eq_zero_iff.1 (by omega)
    rw [pieces_no (by simp)] at hp
    simp at hp; subst hp; exact Nat.le_refl _
  | succ n ih =>
    intro l h p hp
    rcases first_at c l with h1 | ⟨a, b, h1, rfl⟩
    · rw [pieces_no h1] at hp
      simp at hp; subst hp; exact Nat.le_refl _
    · rw [pieces_at b h1, List.mem_cons] at hp
      rw [List.length_append, List.length_cons] at h ⊢
      rcases hp with rfl | hp
      · omega
      · have := ih b (by omega) p hp; omega
theorem piece_len' {c : UInt8} {l : Bs} {k : Nat} (hk : k < (pieces c l).length) : ((pieces c l).getD k []).length ≤ l.length := by
  refine piece_len c _ l (Nat.le_refl _) _ ?_
  rw [List.getD_eq_getElem?_getD, List.getElem?_eq_getElem hk]
  exact List.getElem_mem hk
theorem pieces_cnt (c : UInt8) : ∀ (n : Nat) (l : Bs), l.length ≤ n → (pieces c l).length ≤ l.length + 1 := by
  intro n
  induction n with
  | zero =>
    intro l h
    obtain rfl : l = [] := List.length_eq_zero_iff.1 (by omega)
    rw [pieces_no (by simp)]; exact Nat.le_refl _
  | succ n ih =>
    intro l h
    rcases first_at c l with h1 | ⟨a, b, h1, rfl⟩
    · rw [pieces_no h1]; simp
    · rw [List.length_append, List.length_cons] at h ⊢
      rw [pieces_at b h1, List.length_cons]
      have := ih b (by omega); omega
theorem pieces_cnt' (c : UInt8) (l : Bs) : (pieces c l).length ≤ l.length + 1 := pieces_cnt c _ l (Nat.le_refl _)
theorem split_strs (l : Bs) (c : UInt8) : (Lib.splitB ⟨#[c]⟩ 0 (Lib.countB ⟨l.toArray⟩ ⟨#[c]⟩) ⟨l.toArray⟩).map Value.string = strs (pieces c l) := by
  have h := Lib.splitB_data ⟨#[c]⟩ 0 (Lib.countB ⟨l.toArray⟩ ⟨#[c]⟩) ⟨l.toArray⟩
  have e : Lib.splitK [c] 0 (Lib.count l [c]) l = pieces c l := split_pieces c _ l (Nat.le_refl _)
  rw [show (⟨#[c]⟩ : ByteArray).data.toList = [c] from rfl, show (⟨l.toArray⟩ : ByteArray).data.toList = l from rfl, show Lib.countB ⟨l.toArray⟩ ⟨#[c]⟩ = Lib.count l [c] from rfl, e] at h
  rw [show Lib.countB ⟨l.toArray⟩ ⟨#[c]⟩ = Lib.count l [c] from rfl, ← h]
  unfold strs
  rw [List.map_map]
  rfl
theorem split_any (l : Bs) (c : UInt8) (hl : l.length ≤ 1048577) (w : World) (hm : CM w) :
    Calls Tryd.prog 79 #[.string ⟨l.toArray⟩, .string ⟨#[c]⟩] w fun e w' => ∃ A d, e = .returned (.slice A (pieces c l).length d) ∧ RSt w' A (pieces c l).length (pieces c l) ∧ Le w w' := by
  obtain ⟨m, hm⟩ := hm
  have hs : (⟨l.toArray⟩ : ByteArray).size < 4294967281 := by show l.length < _; omega
  refine (Tryd.strings_Split ⟨l.toArray⟩ ⟨#[c]⟩ m w hs hm (Nat.le_refl _)).mono fun e w' ⟨he, hw⟩ => ?_
  have e1 : Lib.countB ⟨l.toArray⟩ ⟨#[c]⟩ + 1 = (pieces c l).length := (split_len c l).symm
  rw [e1] at he
  rw [split_strs] at hw
  have hc := pieces_cnt' c l
  have b := Blk.new w 9 (strs (pieces c l)).toArray
  have hw2 : w' = w.alloc (.cells (strs (pieces c l)).toArray 9) := hw
  rw [← hw2] at b
  refine ⟨_, _, he, ⟨rfl, by omega, fun k hk => ⟨_, rfl, ?_⟩⟩, by rw [hw]; exact (Le.refl w).alloc _⟩
  have := b.cell k
  rw [List.getElem?_toArray, strs_get hk] at this
  rw [addr0]
  exact this
theorem partsOf_snoc (p : Bs) : ∀ (ps : List Bs), partsOf (ps ++ [p]) = match partsOf ps, partOf p with | some xs, some x => some (xs ++ [x]) | _, _ => none
  | [] => by
    show (match partOf p, partsOf [] with | some x, some xs => some (x :: xs) | _, _ => none) = _
    cases partOf p <;> rfl
  | q :: ps => by
    show (match partOf q, partsOf (ps ++ [p]) with | some x, some xs => some (x :: xs) | _, _ => none) = (match (match partOf q, partsOf ps with | some x, some xs => some (x :: xs) | _, _ => none), partOf p with | some xs, some x => some (xs ++ [x]) | _, _ => none)
    rw [partsOf_snoc p ps]
    cases partOf q <;> cases partsOf ps <;> cases partOf p <;> rfl
theorem take_snoc {ps : List Bs} {k : Nat} (h : k < ps.length) : ps.take (k + 1) = ps.take k ++ [ps.getD k []] := by
  rw [List.take_add_one, List.getD_eq_getElem?_getD, List.getElem?_eq_getElem h]; rfl
theorem partsOf_none : ∀ {ps : List Bs} {k : Nat}, k < ps.length → partOf (ps.getD k []) = none → partsOf ps = none
  | [], _, h, _ => absurd h (by simp)
  | q :: ps, 0, _, e => by
    show (match partOf q, partsOf ps with | some x, some xs => some (x :: xs) | _, _ => none) = none
    rw [show partOf q = none from e]
  | q :: ps, k + 1, h, e => by
    show (match partOf q, partsOf ps with | some x, some xs => some (x :: xs) | _, _ => none) = none
    rw [partsOf_none (ps := ps) (k := k) (by simpa using h) (by simpa using e)]
    cases partOf q <;> rfl
theorem run_mk0 {P : Program} (t e : TypeId) (z : Value) (sz bytes : Nat) (ht : P.underlying t = some (.slice e)) (hinfo : (P.info? e).map (fun i => (i.zero, i.size, i.bytes)) = some (some z, sz, bytes))
    (n : Nat) (hb : n * bytes ≤ 281474976710656) (h63 : n ≤ 9223372036854775807) (w : World) :
    (Instr.makeSlice t (.int .i64 0) (.int .i64 (n : Int))).run P w = .ok (.slice (some ⟨w.heap.size, 0, none⟩) 0 n) (w.alloc (.cells (madeCells z.cells (n * sz)) e)) := by
  obtain ⟨i, hi, hz, hs, hby⟩ := info_parts hinfo
  have hb' : (i.bytes : Int) * (n : Int) ≤ 281474976710656 := by
    rw [hby, Int.mul_comm]
    have h : ((n * bytes : Nat) : Int) ≤ 281474976710656 := by omega
    rwa [Int.natCast_mul] at h
  have hr := run_make (P := P) w t e i z ht hi hz .i64 .i64 0 n (by omega) (by omega) hb' (by omega)
  simp only [Int.toNat_natCast, Int.toNat_zero, hs] at hr
  exact hr
theorem own_nil (w : World) (base : Nat) (e : TypeId) (k : Nat) : w.ownsRow base e k (.slice none 0 0) 0 [] := ⟨by simp, .inl ⟨rfl, rfl⟩⟩
theorem partsOf_len : ∀ {ps : List Bs} {xs : List (Int × Int)}, partsOf ps = some xs → xs.length = ps.length
  | [], xs, h => by
    have : some [] = some xs := h
    injection this with this
    subst this; rfl
  | q :: ps, xs, h => by
    have h2 : (match partOf q, partsOf ps with | some x, some ys => some (x :: ys) | _, _ => none) = some xs := h
    cases hq : partOf q with
    | none => rw [hq] at h2; cases h2
    | some x =>
      cases hp : partsOf ps with
      | none => rw [hq, hp] at h2; cases h2
      | some ys =>
        rw [hq, hp] at h2
        injection h2 with h2
        subst h2
        rw [List.length_cons, List.length_cons, partsOf_len hp]
theorem readPL_none {l : Bs} (h0 : l ≠ []) {k : Nat} (hk : k < (pieces 44 l).length) (h : partOf ((pieces 44 l).getD k []) = none) : readPL l = none := by
  unfold readPL
  rw [if_neg h0, partsOf_none hk h]
  split <;> rfl
set_option maxRecDepth 20000 in
set_option maxHeartbeats 4000000 in
theorem readParts_any (l : Bs) (hl : l.length ≤ 1048577) (w : World) (hcm : CM w) :
    Calls Tryd.prog 44 #[.string ⟨l.toArray⟩] w fun e w' => ∃ v, e = .returned (.tuple #[v, .bool (readPL l).isSome]) ∧ w'.ownsRow w.heap.size 80 2 v ((readPL l).getD []).length (pairs ((readPL l).getD [])) ∧ Le w w' := by
  obtain ⟨i0, hi0, hz0, hz1, hz2⟩ := info_parts infoPart
  obtain ⟨r, hr⟩ : ∃ r, readPL l = r := ⟨_, rfl⟩
  rw [hr]
  have HRD := Lib.hid hr
  clear hr
  by_cases h0 : l = []
  · subst h0
    obtain rfl : r = some [] := by rw [← HRD.out]; rfl
    have hne : (⟨([] : Bs).toArray⟩ : ByteArray).toList.isEmpty = true := by
      rw [ByteArray.toList_eq]; rfl
    obtain ⟨S, hS⟩ : ∃ S : ByteArray, ⟨([] : Bs).toArray⟩ = S := ⟨_, rfl⟩
    rw [hS] at hne ⊢
    clear hS hl
    go_enter Tryd.func44, Tryd.ntmps44
    go_wp2
    go_ret2
    exact ⟨_, rfl, own_nil _ _ _ _, Le.refl _⟩
  have HSP := Lib.hid (split_any l 44 hl w hcm)
  have HCM := Lib.hid hcm
  have hcnt := pieces_cnt' 44 l
  have HPL := Lib.hid (fun k (hk : k < (pieces 44 l).length) => Nat.le_trans (piece_len' (c := 44) (l := l) hk) hl)
  have HPN := Lib.hid (fun k (hk : k < (pieces 44 l).length) => readPL_none (l := l) h0 hk)
  have HRP := Lib.hid (show readPL l = if (pieces 44 l).length ≤ 3 then partsOf (pieces 44 l) else none from by unfold readPL; rw [if_neg h0])
  obtain ⟨ps, hps⟩ : ∃ ps, pieces 44 l = ps := ⟨_, rfl⟩
  rw [hps] at HSP hcnt HPL HPN HRP
  have hne : (⟨l.toArray⟩ : ByteArray).toList.isEmpty = false := by
    rw [ByteArray.toList_eq]
    cases l with
    | nil => exact absurd rfl h0
    | cons _ _ => rfl
  obtain ⟨S, hS⟩ : ∃ S : ByteArray, ⟨l.toArray⟩ = S := ⟨_, rfl⟩
  rw [hS] at hne HSP ⊢
  obtain ⟨m, hm⟩ : ∃ m, ps.length = m := ⟨_, rfl⟩
  have HM := Lib.hid hm
  rw [hm] at HSP hcnt HPL HPN HRP
  clear hm hS hps hcm h0
  go_enter Tryd.func44, Tryd.ntmps44
  go_wp2_with fail
  refine HSP.out.mono ?_; rintro e w1 ⟨A, d, rfl, hR, l1⟩
  have HR := Lib.hid hR
  have L1 := Lib.hid l1
  clear hR l1
  by_cases h3 : 3 < m
  · obtain rfl : r = none := by rw [← HRD.out, HRP.out, if_neg (by omega)]
    go_wp2
    go_ret2
    exact ⟨_, rfl, own_nil _ _ _ _, L1.out⟩
  · have hmk := run_mk0 (P := Tryd.prog) 24 80 (.agg #[.int .i64 0, .int .i64 0]) 2 16 Tryd.underlying24 infoPart m (by omega) (by omega)
    have HO := Lib.hid (World.ownsRow_made (e := 80) (size := 2) (base := w1.heap.size) w1 (madeCells #[.int .i64 0, .int .i64 0] (m * 2)) m (Nat.le_refl _) (by unfold maxLen; omega) (made_size _ _))
    go_wp2
    clear hmk
    go_loopw [5, 27] (fun v i wr => ∃ (k : Nat) (xs : List (Int × Int)), k ≤ m ∧ i = .int .i64 (k : Int) ∧ partsOf (ps.take k) = some xs ∧ xs.length = k ∧ v ≠ .slice none 0 0 ∧ wr.ownsRow w1.heap.size 80 2 v k (pairs xs) ∧ Le w1 wr) (fun _ i _ => m - (intOf i).toNat)
    case atStart => exact ⟨0, [], Nat.zero_le _, rfl, rfl, rfl, (fun e => by cases e), HO.out, (Le.refl _).alloc _⟩
    case round =>
      obtain ⟨k, xs, hk, rfl, hpo, hxl, hnn, hown, hle⟩ := hrel
      obtain ⟨gv, cap, rfl, hgv, hcap, hcm⟩ : ∃ gv cap, u5 = .slice (some ⟨gv, 0, none⟩) k cap ∧ w1.heap.size ≤ gv ∧ k ≤ cap ∧ cap ≤ maxLen := by
        rcases hown.2 with ⟨e, _⟩ | ⟨g', cap', cur, e, h1, _, h2, h3, _⟩
        · exact absurd e hnn
        · exact ⟨g', cap', e, h1, h2, h3⟩
      have OW := Lib.hid hown
      have LE := Lib.hid hle
      have HPO := Lib.hid hpo
      clear hown hpo hle hnn
      by_cases hlt : k < m
      · obtain ⟨ad, rfl, c0⟩ := (HR.out.le LE.out).at_ k hlt
        have hpl := HPL.out k hlt
        have HN := Lib.hid (HPN.out k hlt)
        obtain ⟨p, hp⟩ : ∃ p, ps.getD k [] = p := ⟨_, rfl⟩
        rw [hp] at c0 hpl HN
        have HTS := Lib.hid (show partsOf (ps.take (k + 1)) = match some xs, partOf p with | some xs, some x => some (xs ++ [x]) | _, _ => none from by
          rw [take_snoc (by rw [HM.out]; exact hlt), partsOf_snoc, HPO.out, hp])
        clear hp
        have HCT := Lib.hid (cut_any p 42 (by omega) wr (HCM.out.le (L1.out.trans LE.out)))
        have hc1 := (cut_len p 42).1
        have hc2 := (cut_len p 42).2
        obtain ⟨q1, hq1⟩ : ∃ q1, (Lib.cut p [42]).1 = q1 := ⟨_, rfl⟩
        obtain ⟨q2, hq2⟩ : ∃ q2, (Lib.cut p [42]).2.1 = q2 := ⟨_, rfl⟩
        obtain ⟨f, hf⟩ : ∃ f, (Lib.cut p [42]).2.2 = f := ⟨_, rfl⟩
        rw [hq1, hq2, hf] at HCT
        rw [hq1] at hc1
        rw [hq2] at hc2
        have HPT := Lib.hid (show partOf p = if f && (readB q1 1 && readB q2 1) then some ((numV q1 : Int), (numV q2 : Int)) else none from by unfold partOf; rw [hq1, hq2, hf])
        have HR1 := Lib.hid (fun w' => readNumber_any q1 1 (by omega) (by omega) w')
        have HR2 := Lib.hid (fun w' => readNumber_any q2 1 (by omega) (by omega) w')
        obtain ⟨n1, b1, hn1, hn1'⟩ : ∃ n1 b1, readN q1 1 = (n1, b1) ∧ readB q1 1 = b1 ∧ (b1 = true → numV q1 = n1) := ⟨(readN q1 1).1, (readN q1 1).2, rfl, by unfold readN; cases readB q1 1 <;> rfl, by unfold readN; cases readB q1 1 <;> simp⟩
        obtain ⟨n2, b2, hn2, hn2'⟩ : ∃ n2 b2, readN q2 1 = (n2, b2) ∧ readB q2 1 = b2 ∧ (b2 = true → numV q2 = n2) := ⟨(readN q2 1).1, (readN q2 1).2, rfl, by unfold readN; cases readB q2 1 <;> rfl, by unfold readN; cases readB q2 1 <;> simp⟩
        rw [hn1] at HR1
        rw [hn2] at HR2
        rw [hn1'.1, hn2'.1] at HPT
        have HV1 := Lib.hid hn1'.2
        have HV2 := Lib.hid hn2'.2
        obtain ⟨Q1, hQ1⟩ : ∃ Q : ByteArray, ⟨q1.toArray⟩ = Q := ⟨_, rfl⟩
        obtain ⟨Q2, hQ2⟩ : ∃ Q : ByteArray, ⟨q2.toArray⟩ = Q := ⟨_, rfl⟩
        obtain ⟨Pp, hPp⟩ : ∃ Q : ByteArray, ⟨p.toArray⟩ = Q := ⟨_, rfl⟩
        rw [hQ1, hQ2, hPp] at HCT
        rw [hQ1] at HR1
        rw [hQ2] at HR2
        rw [hPp] at c0
        clear hq1 hq2 hf hn1 hn2 hn1' hn2' hQ1 hQ2 hPp
        go_wp2_with fail
        refine HCT.out.mono ?_; rintro e w2 ⟨rfl, l2⟩
        have L2 := Lib.hid l2
        clear l2 c0
        go_wp2_with fail
        refine (HR1.out _).mono ?_; rintro e w3 ⟨rfl, rfl⟩
        go_wp2_with fail
        refine (HR2.out _).mono ?_; rintro e w4 ⟨rfl, rfl⟩
        by_cases hall : f = true ∧ b1 = true ∧ b2 = true
        · obtain ⟨rfl, rfl, rfl⟩ := hall
          have HTS2 := Lib.hid (show partsOf (ps.take (k + 1)) = some (xs ++ [((n1 : Int), (n2 : Int))]) from by
            rw [HTS.out, HPT.out]; simp [HV1.out rfl, HV2.out rfl])
          clear HTS HPT HN HPN HV1 HV2 HR1 HR2 HCT
          go_wp2_with (at_builtin; refine wpList_append_own _ rfl _ _ 24 rfl w1.heap.size 80 i0 _ 2 16 Tryd.underlying24 hi0 hz0 hz1 hz2 rfl (by decide) _ k (pairs xs) rfl ((own_Le OW.out L2.out).alloc _) ⟨w2.heap.size, 0, none⟩ 1 1 [.int .i64 (n1 : Int), .int .i64 (n2 : Int)] rfl rfl ?c1 ?c2 ?c3 ?c4 ?c5 ?_)
          case c1 => exact cell_two' w2 _ rfl _ _ _
          case c2 => intro u hu; simp at hu; rcases hu with rfl | rfl <;> rfl
          case c3 => unfold maxLen; omega
          case c4 => omega
          case c5 => have := LE.out.size; have := L2.out.size; simp; omega
          intro v' w4 hown' hgrow hnil
          have la := (Le.refl w2).alloc (.cells #[.int .i64 (n1 : Int), .int .i64 (n2 : Int)] 80)
          have LE4 := Lib.hid ((LE.out.trans (L2.out.trans la)).grown hgrow (fun q hq => (OW.out.lt q hq).1))
          have HNN := Lib.hid (show v' ≠ .slice none 0 0 from hnil)
          have OW4 := Lib.hid hown'
          clear hown' hgrow hnil la
          go_wp2
          go_roundw
          case rel =>
            refine ⟨k + 1, xs ++ [((n1 : Int), (n2 : Int))], by omega, by go_num, HTS2.out, by rw [List.length_append, hxl]; rfl, HNN.out, ?_, LE4.out⟩
            rw [pairs_snoc]
            exact OW4.out
          case measure => simp [intOf]; omega
        · have HNO := Lib.hid (HN.out (by rw [HPT.out]; cases f <;> cases b1 <;> cases b2 <;> first | rfl | exact absurd ⟨rfl, rfl, rfl⟩ hall))
          obtain rfl : r = none := by rw [← HRD.out, HNO.out]
          clear HTS HPT HN HPN HV1 HV2 HR1 HR2 HCT
          cases f
          · go_wp2
            go_ret2
            exact ⟨_, rfl, own_nil _ _ _ _, L1.out.trans (LE.out.trans L2.out)⟩
          · cases b1
            · go_wp2
              go_ret2
              exact ⟨_, rfl, own_nil _ _ _ _, L1.out.trans (LE.out.trans L2.out)⟩
            · cases b2
              · go_wp2
                go_ret2
                exact ⟨_, rfl, own_nil _ _ _ _, L1.out.trans (LE.out.trans L2.out)⟩
              · exact absurd ⟨rfl, rfl, rfl⟩ hall
      · obtain rfl : k = m := by omega
        obtain rfl : r = some xs := by rw [← HRD.out, HRP.out, if_pos (by omega), ← HPO.out, List.take_of_length_le (by rw [HM.out]; exact Nat.le_refl _)]
        go_wp2
        go_ret2
        refine ⟨_, rfl, ?_, L1.out.trans LE.out⟩
        show World.ownsRow _ _ _ _ _ xs.length (pairs xs)
        rw [hxl]
        exact own_mono OW.out L1.out.size
end Go.Proofs.YtoahjfofnaafaaaDoor
