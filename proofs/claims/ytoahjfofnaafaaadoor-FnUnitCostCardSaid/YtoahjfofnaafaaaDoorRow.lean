/- The last step of every law: from what the call does (it returns true, and below the old heap nothing has turned) to the row's 'post'. No program in sight. -/
import Derived.WalkKit
import Derived.ProofKit
import Derived.OpenShut
import Derived.Carry
import Derived.Deep.Slices
import Derived.Deep.Fields
import Derived.Test.YtoahjfofnaafaaaDoorKit
namespace Go.Proofs.YtoahjfofnaafaaaDoor
open Go.ChangeShapes Go.WideShapes Go.ChangeAt Go.RowKit

section
variable {H : Type} {enc : TypeId × Value → H} {P : Program}

theorem trodAll_stays (hl : laidOutB P = true) {W W' : World} {sp : Nat → Bool} : ∀ (ts : List TypeId) (vs : List Value) (ds : List (DataW H)) (ps : List MemPlace),
    (∀ t ∈ ts, P.readableRec t = true ∧ t < P.types.size) → DataW.TrodAll enc P W 0 (fun _ => true) true ts vs ds ps → (∀ p ∈ ps, W.sameAt W' p) → (∀ p ∈ ps, sp p.block = true) →
    DataW.TrodAll enc P W' 0 sp true ts vs ds ps
  | [], [], [], _, _, h, _, _ => h
  | t :: ts, v :: vs, d :: ds, _, ht, h, hsame, hs => by
    obtain ⟨p, q, h1, h2, rfl⟩ := h
    obtain ⟨hr, hrow⟩ := ht t (by simp)
    exact ⟨p, q, WideElems.Trod_stays hl hr hrow h1 (fun x hx => hsame x (by simp [hx])) (fun x hx => hs x (by simp [hx])),
      trodAll_stays hl ts vs ds q (fun u hu => ht u (by simp [hu])) h2 (fun x hx => hsame x (by simp [hx])) (fun x hx => hs x (by simp [hx])), rfl⟩
  | [], _ :: _, _, _, _, h, _, _ => by simp [DataW.TrodAll] at h
  | [], [], _ :: _, _, _, h, _, _ => by simp [DataW.TrodAll] at h
  | _ :: _, [], _, _, _, h, _, _ => by simp [DataW.TrodAll] at h
  | _ :: _, _ :: _, [], _, _, h, _, _ => by simp [DataW.TrodAll] at h

/-- THE LAST STEP: the call returned true, the old memory is as it was. -/
theorem law_post {f : Func} {s : ChangeSpec} {apart fresh handsOn again : Bool} {W W' : World} {args : Array Value} {ds gs : List (DataW H)} {before : List MemPlace} {bt : TypeId}
    (hl : laidOutB P = true) (hread : ∀ t ∈ f.params.toList, P.readableRec t = true ∧ t < P.types.size)
    (hvars : s.vars = []) (hfn : s.fn H (ds ++ gs) = { results := [.lit (.bool true)], args := ds })
    (hres : f.resultTypes = #[bt]) (hbt : P.underlying bt = some .bool)
    (hW : DataW.Whole enc P f.params.toList s.vars apart W args.toList ds gs before) (hb : Below W.heap.size W W') :
    s.post enc P f apart fresh handsOn again W args (.bool true) W' := by
  have hlt : ∀ p ∈ before, p.block < W.heap.size := fun p hp => hW.lt p hp
  have hold : ∀ p ∈ before, (fun b => decide (b < W.heap.size)) p.block = true := fun p hp => by simpa using hlt p hp
  have hW0 := hW
  obtain ⟨p, q, hA, hV, hpq, hz, hn⟩ := hW
  rw [hvars] at hV
  obtain ⟨rfl, rfl⟩ := trodVars_none hV
  simp only [List.append_nil] at hpq hfn
  subst hpq
  have hargs : ∀ sp : Nat → Bool, (∀ x ∈ before, sp x.block = true) → DataW.TrodAll enc P W' 0 sp true f.params.toList args.toList ds before := fun sp hsp =>
    trodAll_stays hl _ _ _ _ hread hA (fun x hx => hb.same (hlt x hx)) hsp
  have hresults : ∀ (b : Nat) (sp : Nat → Bool) (hd : Bool), DataW.TrodAll enc P W' b sp hd f.resultTypes.toList ((Value.bool true).resultList f.resultTypes.size) [.lit (.bool true)] [] := fun _ _ _ => by
    rw [hres]; exact trodAll_mk1 (shut_bool hbt _)
  have hvs : ∀ sp : Nat → Bool, DataW.TrodVars enc P W' sp s.vars (s.fn H (ds ++ [])).vars [] := fun sp => by
    rw [hvars]; simp only [List.append_nil, hfn]; rfl
  refine ⟨ds, [], before, [], before, [], hW0, by simpa [hfn] using hresults _ _ _, by simpa [hfn] using hargs _ hold, hvs _, World.keptBut_mono (fun x hx => ⟨hx, .inr (by simpa using hx)⟩) (hb.frame (· ∈ before)), fun _ => ?_⟩
  refine ⟨ok_one hres rfl (okWide_bool_mk hbt _), [.lit (.bool true)] ++ ds, (s.fn H (ds ++ [])).vars, ([] ++ before) ++ [], ⟨[] ++ before, [], ?_, hvs _, rfl, ?_, ?_⟩, ?_⟩
  · exact trodAll_append (hargs _ (fun _ _ => rfl)) (hresults _ _ _)
  · intro b off hp
    have hin : MemPlace.cell b off ∈ before := by simpa using hp
    rw [hb.frozen (hlt _ hin)]
    exact hz b off hin
  · intro ha
    simpa using hn ha
  · intro x hp _
    simpa using hp

variable {W : World} {base base' : Nat}
theorem wf_i64 {x : Int} (h : (Lit.int .i64 x).wf = true) : -9223372036854775808 ≤ x ∧ x ≤ 9223372036854775807 := by
  simp [Lit.wf, IntKind.min, IntKind.max, IntKind.signed, IntKind.bits] at h
  omega

/-- an argument of type int -/
theorem open_I {t : TypeId} {v : Value} {d : DataW H} {p : List MemPlace} {sp : Nat → Bool} {held : Bool} (ht : P.underlying t = some (.int .i64)) (hv : Value.okWide P W .any base t v) (h : DataW.Trod enc P W base' sp held t v d p) :
    ∃ x, v = .int .i64 x ∧ -9223372036854775808 ≤ x ∧ x ≤ 9223372036854775807 := by
  obtain ⟨x, rfl, rfl, rfl, wx⟩ := open_int ht hv h
  exact ⟨x, rfl, wf_i64 wx⟩

/-- an argument of type []int -/
theorem open_RI_cells {t e : TypeId} {d : DataW H × List MemPlace} {fuel : Nat} {held : Bool} {A : Option Addr} {n c : Nat} (ht : P.underlying t = some (.slice e)) (he : P.underlying e = some (.int .i64)) (hce : P.cellsOf e = 1)
    (h : DataW.trod enc P W base' (fun _ => true) held fuel t [.slice A n c] = some d) : ∃ xs, RI W A n xs ∧ W64 xs := by
  rcases open_ints ht he hce h with ⟨hcs, hx⟩ | ⟨a, len, cap, zs, hcs, _, hl, hm, hz, hx, hcell, hwz⟩
  · simp only [List.cons.injEq, Value.slice.injEq, and_true] at hcs
    obtain ⟨rfl, rfl, rfl⟩ := hcs
    exact ⟨[], RI.nil _, fun x hx => by cases hx⟩
  · simp only [List.cons.injEq, Value.slice.injEq, and_true] at hcs
    obtain ⟨rfl, rfl, rfl⟩ := hcs
    simp only [if_true] at hz
    unfold maxLen at hm
    refine ⟨zs.take n, ⟨by rw [List.length_take]; omega, by omega, fun k hk => ⟨a, rfl, ?_⟩⟩, fun x hx => ?_⟩
    · rw [hcell k (by omega)]
      have : gi (zs.take n) k = zs.getD k 0 := by
        unfold gi; rw [List.getD_eq_getElem?_getD, List.getD_eq_getElem?_getD, List.getElem?_take, if_pos hk]
      rw [this]
    · exact wf_i64 (hwz x (List.mem_of_mem_take hx))

theorem open_SI {t e : TypeId} {v : Value} {d : DataW H} {p : List MemPlace} {held : Bool} (ht : P.underlying t = some (.slice e)) (he : P.underlying e = some (.int .i64)) (hce : P.cellsOf e = 1)
    (hv : Value.okWide P W .any base t v) (h : DataW.Trod enc P W base' (fun _ => true) held t v d p) : ∃ A n c xs, v = .slice A n c ∧ RI W A n xs ∧ W64 xs := by
  obtain ⟨A, n, c, rfl⟩ := okWide_slice ht hv
  obtain ⟨fuel, hf⟩ := h
  obtain ⟨xs, h1, h2⟩ := open_RI_cells ht he hce (show DataW.trod enc P W base' (fun _ => true) held fuel t [.slice A n c] = some (d, p) from hf)
  exact ⟨A, n, c, xs, rfl, h1, h2⟩

/-- an argument that is a slice of structs of one-cell fields, cell by cell -/
theorem open_rows {t e : TypeId} {fs : Array Field} {fuel : Nat} {held : Bool} {A : Option Addr} {n c : Nat} {x : DataW H × List MemPlace} (ht : P.underlying t = some (.slice e)) (he : P.underlying e = some (.struct fs))
    (hone : Go.Deep.oneCellFields P fs = true) (hC : P.cellsOf e = fs.size) (h : DataW.trod enc P W base' (fun _ => true) held fuel t [.slice A n c] = some x) :
    n ≤ 9223372036854775807 ∧ n ≤ c ∧ ∀ i, i < n → ∃ ad, A = some ad ∧ ∀ (j : Nat) (f : Field), fs[j]? = some f →
      ∃ (v : Value) (y : DataW H × List MemPlace) (m : Nat), W.cell? ((ad.add (i * fs.size)).add j) = some v ∧ DataW.trod enc P W base' (fun _ => true) held m f.type [v] = some y := by
  rcases Go.Deep.open_slice ht h with ⟨hcs, _⟩ | ⟨a, len, cap, m, k, D, Pl, hcs, hb, hl, hm, hmm, hx, hi⟩
  · simp only [List.cons.injEq, Value.slice.injEq, and_true] at hcs
    obtain ⟨rfl, rfl, rfl⟩ := hcs
    exact ⟨by omega, by omega, fun i hi => absurd hi (by omega)⟩
  · simp only [List.cons.injEq, Value.slice.injEq, and_true] at hcs
    obtain ⟨rfl, rfl, rfl⟩ := hcs
    unfold maxLen at hm
    simp only [if_true] at hmm
    refine ⟨by omega, hl, fun i hin => ⟨a, rfl, fun j f hj => ?_⟩⟩
    obtain ⟨cs', hc, ht'⟩ := hi i (by omega)
    rw [hC] at hc
    obtain ⟨ys, n', hn', hy, hlen, hyl, hf⟩ := DataW.trod_struct he ht'
    obtain ⟨_, hcl, hat⟩ := World.cells?_some hc
    obtain ⟨ho, hk⟩ := Go.Deep.hone_of hone j f hj
    have hjl : j < fs.size := (Array.getElem?_eq_some_iff.1 hj).1
    have hcell := hat j hjl
    have hv : cs'[j]? = some (cs'[j]'(by omega)) := List.getElem?_eq_getElem (by omega)
    have h1 := hf j f hj
    rw [ho, hk] at h1
    have hone' : (cs'.drop j).take 1 = [cs'[j]'(by omega)] := by
      rw [List.drop_eq_getElem_cons (by omega)]
      rfl
    rw [hone'] at h1
    have hys : ys[j]? = some (ys[j]'(by omega)) := List.getElem?_eq_getElem (by omega)
    exact ⟨_, _, _, by rw [hcell, hv], h1.trans hys⟩

/-- an argument of type []T, T a struct of two integers -/
theorem open_SP {t e : TypeId} {v : Value} {d : DataW H} {p : List MemPlace} {held : Bool} {fs : Array Field}
    (ht : P.underlying t = some (.slice e)) (he : P.underlying e = some (.struct fs))
    (hone : Go.Deep.oneCellFields P fs = true) (hC : P.cellsOf e = fs.size) (hf : ∃ f g, fs = #[f, g] ∧ P.underlying f.type = some (.int .i64) ∧ P.underlying g.type = some (.int .i64))
    (hv : Value.okWide P W .any base t v) (h : DataW.Trod enc P W base' (fun _ => true) held t v d p) : ∃ A n c ps, v = .slice A n c ∧ RP W A n ps := by
  obtain ⟨A, n, c, rfl⟩ := okWide_slice ht hv
  obtain ⟨fuel, hf'⟩ := h
  obtain ⟨hm, _, hi⟩ := open_rows ht he hone hC (show DataW.trod enc P W base' (fun _ => true) held fuel t [.slice A n c] = some (d, p) from hf')
  obtain ⟨f, g, rfl, hfi, hgi⟩ := hf
  have each : ∀ i, ∃ q : Int × Int, i < n → ∃ ad, A = some ad ∧ W.cell? (ad.add (i * 2)) = some (.int .i64 q.1) ∧ W.cell? ⟨(ad.add (i * 2)).block, (ad.add (i * 2)).off + 1, none⟩ = some (.int .i64 q.2) := by
    intro i
    by_cases hin : i < n
    · obtain ⟨ad, hA, hj⟩ := hi i hin
      obtain ⟨v0, y0, m0, c0, t0⟩ := hj 0 f rfl
      obtain ⟨v1, y1, m1, c1, t1⟩ := hj 1 g rfl
      obtain ⟨z0, e0, _, _⟩ := DataW.trod_int hfi t0
      obtain ⟨z1, e1, _, _⟩ := DataW.trod_int hgi t1
      simp only [List.cons.injEq, and_true] at e0 e1
      subst e0; subst e1
      exact ⟨(z0, z1), fun _ => ⟨ad, hA, by simpa [Addr.add_zero'] using c0, by simpa [Addr.add_succ'] using c1⟩⟩
    · exact ⟨(0, 0), fun hh => absurd hh hin⟩
  refine ⟨A, n, c, (List.range n).map fun i => Classical.choose (each i), rfl, by simp, hm, fun k hk => ?_⟩
  have e : gp ((List.range n).map fun i => Classical.choose (each i)) k = Classical.choose (each k) := by
    unfold gp; rw [List.getD_eq_getElem?_getD, List.getElem?_map, List.getElem?_range hk]; rfl
  rw [e]
  exact Classical.choose_spec (each k) hk
end
end Go.Proofs.YtoahjfofnaafaaaDoor
