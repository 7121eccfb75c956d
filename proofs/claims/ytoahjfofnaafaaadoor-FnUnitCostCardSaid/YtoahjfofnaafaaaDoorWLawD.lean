/- Small words for the laws of chapter 1: appends under a guard; rows of zeros. -/
import Derived.Test.YtoahjfofnaafaaaDoorWLawC
import Derived.Test.YtoahjfofnaafaaaDoorPReg
namespace Go.Proofs.YtoahjfofnaafaaaDoor
open Go.RowKit

/-- an append under a guard that says yes -/
theorem wpList_append_own_g {P : Program} {w : World} {ops : Array Oper} {rest : List Oper} {o : Oper} {a : Act} {Q : Exit → Act → World → Prop} (hw : Region.wanted o (yielded ops a.tmps) = true) (d : Option Tmp) (hd : o.dst = d) (s x : Operand) (t : TypeId)
    (ho : o.op = .call { callee := .builtin .append, args := #[s, x], argTypes := #[t, t] })
    (base : Nat) (e : TypeId) (i : TypeInfo) (z : Value) (size bytes : Nat) (ht : P.underlying t = some (.slice e)) (hi : P.info? e = some i) (hz : i.zero = some z)
    (hsize : i.size = size) (hby : i.bytes = bytes) (hzs : z.cells.size = size) (hsz : 0 < size)
    (v : Value) (n : Nat) (xs : List Value) (hs : a.eval s = v) (hown : w.ownsRow base e size v n xs)
    (ad : Addr) (m c : Nat) (news : List Value) (hx : a.eval x = .slice (some ad) m c) (hl : news.length = m * size) (hnews : ∀ j u, news[j]? = some u → w.cell? (ad.add j) = some u) (h1 : ∀ u ∈ news, u.oneCell' = true)
    (h63 : n + m ≤ maxLen) (hbytes : (n + m) * bytes ≤ 140737488355328) (hbase : base ≤ w.heap.size)
    (h : ∀ v' w', w'.ownsRow base e size v' (n + m) (xs ++ news) → w.grownBy w' v.ownBlock → (v' = .slice none 0 0 ↔ v = .slice none 0 0 ∧ m = 0) → wpList P ops Q rest (a.put d v') w') : wpList P ops Q (o :: rest) a w :=
  BigFrame.wpList_want hw fun _ hK => wp_append_own w s x t ho base e i z size bytes ht hi hz hsize hby hzs hsz v n xs hs hown ad m c news hx hl hnews h1 h63 hbytes hbase fun v' w' h2 h3 h4 => hK _ _ (by subst hd; exact h v' w' h2 h3 h4)
theorem ints_one1 (ps : List Int) : ∀ u ∈ ints ps, u.oneCell' = true := by
  intro u hu
  unfold ints at hu
  obtain ⟨x, _, rfl⟩ := List.mem_map.1 hu
  rfl
theorem made_RI (w : World) (k : Nat) (hk : k ≤ 1048576) : RI (w.alloc (.cells (madeCells #[.int .i64 0] k) 3)) (some ⟨w.heap.size, 0, none⟩) k (List.replicate k 0) :=
  Blk.RI_ (Blk.new _ _ _) (by simp) (by omega) (fun j hj => by
    rw [made_get _ _ _ hj]
    congr 2
    unfold gi; rw [List.getD_eq_getElem?_getD, List.getElem?_replicate, if_pos hj]; rfl)
end Go.Proofs.YtoahjfofnaafaaaDoor
