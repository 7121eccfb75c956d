/- Small words: how a list of pairs is marked; results that are lists of pairs. -/
import Derived.Test.YtoahjfofnaafaaaDoorWMark
import Derived.Test.YtoahjfofnaafaaaDoorWApp
namespace Go.Proofs.YtoahjfofnaafaaaDoor
open Go.RowKit

def upP (m : Int) (n : Nat) : List (Int × Int) := (List.range n).map fun (k : Nat) => (m + 2 * (k : Int), m + 2 * (k : Int) + 1)
theorem upP_length (m : Int) (n : Nat) : (upP m n).length = n := by simp [upP]
theorem gp_upP {m : Int} {n k : Nat} (h : k < n) : gp (upP m n) k = (m + 2 * (k : Int), m + 2 * (k : Int) + 1) := by
  unfold gp upP; rw [List.getD_eq_getElem?_getD, List.getElem?_map, List.getElem?_range h]; rfl
theorem cellP_upP {m : Int} {n j : Nat} (h : j < n * 2) : cellP (upP m n) j = .int .i64 (m + (j : Nat)) := by
  unfold cellP
  rw [gp_upP (by omega)]
  split
  · congr 1; simp; omega
  · congr 1; simp; omega

/-- a contract whose result is a list of pairs of its own, and a truth -/
theorem slice_retPB {P : Program} {f : FuncId} {args : Array Value} {w : World} {t : TypeId} {L : List (Int × Int)} {b : Value}
    (h : Calls P f args w fun e w' => ∃ v, e = .returned (.tuple #[v, b]) ∧ w'.ownsRow w.heap.size t 2 v L.length (pairs L) ∧ Le w w') (hm : L.length ≤ 9223372036854775807) :
    Calls P f args w fun e w' => ∃ A c, e = .returned (.tuple #[.slice A L.length c, b]) ∧ RP w' A L.length L ∧ w'.ownsRow w.heap.size t 2 (.slice A L.length c) L.length (pairs L) ∧ Le w w' :=
  h.mono fun e w' ⟨v, he, ho, hl⟩ => by
    obtain ⟨A, c, rfl, hr⟩ := own_RP ho hm
    exact ⟨A, c, he, hr, ho, hl⟩
theorem slice_retP {P : Program} {f : FuncId} {args : Array Value} {w : World} {t : TypeId} {L : List (Int × Int)}
    (h : Calls P f args w fun e w' => ∃ v, e = .returned v ∧ w'.ownsRow w.heap.size t 2 v L.length (pairs L) ∧ Le w w') (hm : L.length ≤ 9223372036854775807) :
    Calls P f args w fun e w' => ∃ A c, e = .returned (.slice A L.length c) ∧ RP w' A L.length L ∧ w'.ownsRow w.heap.size t 2 (.slice A L.length c) L.length (pairs L) ∧ Le w w' :=
  h.mono fun e w' ⟨v, he, ho, hl⟩ => by
    obtain ⟨A, c, rfl, hr⟩ := own_RP ho hm
    exact ⟨A, c, he, hr, ho, hl⟩
theorem Blk.ownP {w : World} {base g : Nat} {e : TypeId} {xs : List (Int × Int)} (h : Blk w g e (pairs xs).toArray) (hb : base ≤ g) {n : Nat} (hn : xs.length = n) (hm : n ≤ 9223372036854775807) :
    w.ownsRow base e 2 (.slice (some ⟨g, 0, none⟩) n n) n (pairs xs) := by
  have := Blk.own (size := 2) (n := n) (cap := n) h hb (Nat.le_refl _) (by unfold maxLen; omega) (by simp [pairs_length, hn])
  rw [List.take_of_length_le (by simp [pairs_length, hn])] at this
  simpa using this
end Go.Proofs.YtoahjfofnaafaaaDoor
