/- Regions whose last operation waits for all others: it may be carried out behind the region. No program in sight. -/
import Derived.Test.YtoahjfofnaafaaaDoorKit
import Derived.Deep.RegionHeld3
import Derived.StillTail
namespace Go.Proofs.YtoahjfofnaafaaaDoor
open Go

/-- an operation made idle -/
def idle (o : Oper) : Oper := { o with op := .assign (.const (.bool true)), dst := none, guard := none }
def lastB (ops : Array Oper) (n : Nat) : Bool :=
  decide (ops.size = n + 1) && ((List.range n).all fun i => Region.waitsFor .any ops n i) && ((List.range (n + 1)).all fun i => ((ops[i]?).map fun o => o.after.all fun e => decide (e.on < i)).getD false) && ((ops[n]?).map fun o => o.dst.isNone && o.guard.isNone).getD false
def lastQ (P : Program) (o : Oper) (Q : Exit → Act → World → Prop) : Exit → Act → World → Prop
  | .normal, a, w => o.wp P a w (Q .normal) Q
  | e, a, w => Q e a w

theorem idle_get {ops : Array Oper} {n : Nat} {o : Oper} (ho : ops[n]? = some o) (i : Nat) : (ops.setIfInBounds n (idle o))[i]? = if i = n then some (idle o) else ops[i]? := by
  rw [Array.getElem?_setIfInBounds]
  have hn : n < ops.size := (Array.getElem?_eq_some_iff.1 ho).1
  by_cases e : n = i
  · subst e; simp [hn]
  · rw [if_neg e, if_neg (fun h => e h.symm)]
theorem idle_ready {ops : Array Oper} {n : Nat} {o : Oper} (ho : ops[n]? = some o) (listed : Array Bool) (i : Nat) : i ∈ Region.ready .any (ops.setIfInBounds n (idle o)) listed ↔ i ∈ Region.ready .any ops listed := by
  rw [mem_ready, mem_ready, idle_get ho]
  by_cases e : i = n
  · subst e
    rw [if_pos rfl, ho]
    constructor
    · rintro ⟨h1, o', h2, h3⟩; injection h2 with h2; subst h2; exact ⟨h1, o, rfl, h3⟩
    · rintro ⟨h1, o', h2, h3⟩; injection h2 with h2; subst h2; exact ⟨h1, _, rfl, h3⟩
  · rw [if_neg e]
theorem idle_yielded {ops : Array Oper} {n : Nat} {o : Oper} (ho : ops[n]? = some o) (hd : o.dst = none) (tmps : Array Value) : yielded (ops.setIfInBounds n (idle o)) tmps = yielded ops tmps := by
  funext j
  unfold yielded
  rw [idle_get ho]
  by_cases e : j = n
  · subst e; rw [if_pos rfl, ho]; simp [idle, hd]
  · rw [if_neg e]
/-- while something is left, something may come up -/
theorem ready_some {ops : Array Oper} {listed : Array Bool} {n : Nat} (hs : listed.size = ops.size) (hB : ∀ i, i < n + 1 → ∃ o, ops[i]? = some o ∧ ∀ e ∈ o.after, e.on < i) (hsz : ops.size = n + 1) :
    ∀ i, i < n + 1 → listed.getD i true = false → Region.ready .any ops listed ≠ [] := by
  intro i
  induction i using Nat.strongRecOn with
  | ind i ih =>
    intro hi hun
    by_cases hex : ∃ j, j < i ∧ listed.getD j true = false
    · obtain ⟨j, hj, hu⟩ := hex
      exact ih j hj (by omega) hu
    · obtain ⟨o, ho, hall⟩ := hB i hi
      intro h0
      have : i ∈ Region.ready .any ops listed := by
        rw [mem_ready]
        refine ⟨hun, o, ho, fun e he _ => ?_⟩
        have hlt := hall e he
        cases hl : listed.getD e.on false with
        | true => rfl
        | false => exact absurd ⟨e.on, hlt, getD_in (by rw [hs]; omega) hl⟩ hex
      rw [h0] at this; cases this

theorem any_of_idle {P : Program} {ops : Array Oper} {Q : Exit → Act → World → Prop} {S : World → Prop} {n : Nat} {o : Oper} (ho : ops[n]? = some o) (hd : o.dst = none) (hg : o.guard = none) (hsz : ops.size = n + 1)
    (hB : ∀ i, i < n + 1 → ∃ o, ops[i]? = some o ∧ ∀ e ∈ o.after, e.on < i) (hW : ∀ i, i < n → Region.waitsFor .any ops n i = true) :
    ∀ (fuel : Nat) (listed : Array Bool) (a : Act) (w : World), listed.size = ops.size → listed.getD n true = false →
      wpAnyH P .any (ops.setIfInBounds n (idle o)) (lastQ P o Q) S fuel listed a w → wpAny P .any ops Q fuel listed a w := by
  intro fuel
  induction fuel with
  | zero =>
    intro listed a w hs hun h
    refine absurd ?_ (ready_some hs hB hsz n (by omega) hun)
    rw [List.eq_nil_iff_forall_not_mem]
    intro i hi
    have := (idle_ready ho listed i).2 hi
    rw [h.1] at this; cases this
  | succ fuel ih =>
    intro listed a w hs hun h
    refine ⟨fun h0 => absurd h0 (ready_some hs hB hsz n (by omega) hun), fun i hi => ?_⟩
    have h1 := h.2 i ((idle_ready ho listed i).2 hi)
    by_cases e : i = n
    · subst e
      have hlast : Region.ready .any ops (listed.setIfInBounds i true) = [] := by
        rw [List.eq_nil_iff_forall_not_mem]
        intro j hj
        obtain ⟨hju, oj, hoj, _⟩ := mem_ready.1 hj
        have hjlt : j < ops.size := (Array.getElem?_eq_some_iff.1 hoj).1
        by_cases hji : i = j
        · subst hji
          rw [Array.getD_eq_getD_getElem?, Array.getElem?_setIfInBounds, if_pos rfl, if_pos (by omega)] at hju
          cases hju
        · rw [getD_set_ne true hji] at hju
          obtain ⟨_, oi, hoi, hall⟩ := mem_ready.1 hi
          obtain ⟨o', ho', e, he, hb, hon⟩ := Region.waitsFor_spec (hW j (by omega))
          have : o' = oi := Option.some.inj (ho'.symm.trans hoi)
          subst this
          have := hall e he hb
          rw [hon, getD_both hju] at this
          cases this
      have hlast2 : Region.ready .any (ops.setIfInBounds i (idle o)) (listed.setIfInBounds i true) = [] := by
        rw [List.eq_nil_iff_forall_not_mem]
        intro j hj
        have := (idle_ready ho _ j).1 hj
        rw [hlast] at this; cases this
      have h2 : S w ∧ wpAnyH P .any (ops.setIfInBounds i (idle o)) (lastQ P o Q) S fuel (listed.setIfInBounds i true) a w := by
        unfold wpOp at h1
        rw [idle_get ho, if_pos rfl] at h1
        simp only [idle, Region.wanted, if_true] at h1
        rcases h1 with h1 | h1
        · unfold Oper.wp at h1
          simp [execOp, Oper.upon, Act.put, Act.eval] at h1
          exact h1
        · exfalso
          have h3 := h1.1.1
          simp [execOp, Act.eval] at h3
          have h4 : Sem.events P (pure (Next.value (Value.bool true))) w #[] = #[] := by rfl
          rw [h4] at h3
          simp at h3
      have hq : o.wp P a w (Q .normal) Q := by
        cases fuel with
        | zero => exact h2.2.2
        | succ f => exact h2.2.1 hlast2
      unfold wpOp
      rw [ho]
      simp only [Region.wanted, hg, if_true]
      refine .inl (Oper.wp_mono (fun a' w' hq' => ?_) hq)
      cases fuel with
      | zero => exact ⟨hlast, hq'⟩
      | succ f => exact ⟨fun _ => hq', by rw [hlast]; simp⟩
    · have h2 : wpOp P ops Q i (fun a' w' => S w' ∧ wpAnyH P .any (ops.setIfInBounds n (idle o)) (lastQ P o Q) S fuel (listed.setIfInBounds i true) a' w') a w := by
        unfold wpOp at h1 ⊢
        rw [idle_get ho, if_neg e, idle_yielded ho hd] at h1
        exact h1
      exact wpOp_mono (fun a' w' h3 => ih _ a' w' (by simp [hs]) (by rw [getD_set_ne true e]; exact hun) h3.2) h2

theorem wp_region_last {P : Program} {id : Nat} {ops : Array Oper} {Q : Exit → Act → World → Prop} (S : World → Prop) {a : Act} {w : World} (n : Nat) (o : Oper) (ho : ops[n]? = some o) (hm : P.follows .mixedOrders = true) (hB : lastB ops n = true)
    (h : wpAnyH P .any (ops.setIfInBounds n (idle o)) (lastQ P o Q) S ops.size (Array.replicate ops.size false) a w.drew) : (Code.region id ops true).wp P Q a w := by
  unfold lastB at hB
  simp only [Bool.and_eq_true, decide_eq_true_eq, List.all_eq_true, List.mem_range] at hB
  obtain ⟨⟨⟨hsz, hW⟩, hA⟩, hL⟩ := hB
  rw [ho] at hL
  simp only [Option.map_some, Option.getD_some, Bool.and_eq_true, Option.isNone_iff_eq_none] at hL
  refine wp_region_any hm (any_of_idle ho hL.1 hL.2 hsz (fun i hi => ?_) hW _ _ _ _ (by simp) ?_ h)
  · have h1 := hA i hi
    cases hoi : ops[i]? with
    | none => rw [hoi] at h1; cases h1
    | some oi =>
      rw [hoi] at h1
      simp only [Option.map_some, Option.getD_some] at h1
      refine ⟨oi, rfl, fun e he => ?_⟩
      have := Array.all_eq_true'.1 h1 e he
      simpa using this
  · have : n < (Array.replicate ops.size false).size := by simp; omega
    rw [Array.getD_eq_getD_getElem?, Array.getElem?_eq_getElem this]; simp
end Go.Proofs.YtoahjfofnaafaaaDoor
