/- WLaw WLaw2 WLawS, in one text. -/
import Derived.Test.YtmemenkioejdoaaDoorMDraw
import Derived.Test.YtmemenkioejdoaaDoorWAlive
import Derived.Test.YtmemenkioejdoaaDoorMPure
import Derived.Test.YtmemenkioejdoaaDoorWSum
namespace Go.Proofs.YtmemenkioejdoaaDoor
open Go.RowKit


/-- an append under a guard that says yes -/
theorem wpList_append_own_g {P : Program} {w : World} {ops : Array Oper} {rest : List Oper} {o : Oper} {a : Act} {Q : Exit → Act → World → Prop} (hw : Region.wanted o (yielded ops a.tmps) = true) (d : Option Tmp) (hd : o.dst = d) (s x : Operand) (t : TypeId)
    (ho : o.op = .call { callee := .builtin .append, args := #[s, x], argTypes := #[t, t] })
    (base : Nat) (e : TypeId) (i : TypeInfo) (z : Value) (size bytes : Nat) (ht : P.underlying t = some (.slice e)) (hi : P.info? e = some i) (hz : i.zero = some z)
    (hsize : i.size = size) (hby : i.bytes = bytes) (hzs : z.cells.size = size) (hsz : 0 < size)
    (v : Value) (n : Nat) (xs : List Value) (hs : a.eval s = v) (hown : w.ownsRow base e size v n xs)
    (ad : Addr) (m c : Nat) (news : List Value) (hx : a.eval x = .slice (some ad) m c) (hl : news.length = m * size) (hnews : ∀ j u, news[j]? = some u → w.cell? (ad.add j) = some u) (h1 : ∀ u ∈ news, u.oneCell' = true)
    (h63 : n + m ≤ maxLen) (hbytes : (n + m) * bytes ≤ 140737488355328) (hbase : base ≤ w.heap.size)
    (h : ∀ v' w', w'.ownsRow base e size v' (n + m) (xs ++ news) → w.grownBy w' v.ownBlock → (v' = .slice none 0 0 ↔ v = .slice none 0 0 ∧ m = 0) → wpList P ops Q rest (a.put d v') w') : wpList P ops Q (o :: rest) a w :=
  BigFrame.wpList_want hw fun _ hK => wp_append_own w s x t ho base e i z size bytes ht hi hz hsize hby hzs hsz v n xs hs hown ad m c news hx hl hnews h1 h63 hbytes hbase fun v' w' h2 h3 h4 => hK _ _ (by subst hd; exact h v' w' h2 h3 h4)
theorem own_cap {w : World} {base : Nat} {t : TypeId} {size n gv cap k : Nat} {xs : List Value} (o : w.ownsRow base t size (.slice (some ⟨gv, 0, none⟩) n cap) k xs) : k ≤ cap ∧ cap ≤ maxLen := by
  rcases o.2 with ⟨e, _⟩ | ⟨g', cap', cur, e, _, _, h2, h3, _⟩
  · cases e
  · injection e with _ _ e3; subst e3; exact ⟨h2, h3⟩
/-- drawn lots -/
structure DL (b : Nat) (w : World) (gv cap k : Nat) (ps : List (Int × Int)) : Prop where
  len : ps.length = k
  small : k ≤ 6
  kcap : k ≤ cap
  capm : cap ≤ maxLen
  own : w.ownsRow b 44 2 (.slice (some ⟨gv, 0, none⟩) k cap) k (pairs ps)
theorem DL.rp {b : Nat} {w : World} {gv cap k : Nat} {ps : List (Int × Int)} (h : DL b w gv cap k ps) : RP w (some ⟨gv, 0, none⟩) k ps := own_RP2 h.own (by have := h.small; omega)
theorem DL.le {b : Nat} {w w' : World} {gv cap k : Nat} {ps : List (Int × Int)} (h : DL b w gv cap k ps) (hl : Le w w') : DL b w' gv cap k ps := ⟨h.len, h.small, h.kcap, h.capm, own_Le h.own hl⟩
theorem DL.chg {b lo hi : Nat} {w w' : World} {gv cap k : Nat} {ps : List (Int × Int)} (h : DL b w gv cap k ps) (hc : Chg lo hi w w') (hb : hi ≤ b) : DL b w' gv cap k ps := ⟨h.len, h.small, h.kcap, h.capm, Chg.own2 h.own hc hb⟩
/-- drawn wants -/
structure DI (b : Nat) (w : World) (gv cap k : Nat) (xs : List Int) : Prop where
  len : xs.length = k
  small : k ≤ 7
  kcap : k ≤ cap
  capm : cap ≤ maxLen
  own : w.ownsRow b 3 1 (.slice (some ⟨gv, 0, none⟩) k cap) k (ints xs)
theorem DI.ri {b : Nat} {w : World} {gv cap k : Nat} {xs : List Int} (h : DI b w gv cap k xs) : RI w (some ⟨gv, 0, none⟩) k xs := by
  obtain ⟨A, c, e, r⟩ := own_RI h.own (by have := h.small; omega)
  injection e with e1 _ _
  rw [e1]; exact r
theorem DI.le {b : Nat} {w w' : World} {gv cap k : Nat} {xs : List Int} (h : DI b w gv cap k xs) (hl : Le w w') : DI b w' gv cap k xs := ⟨h.len, h.small, h.kcap, h.capm, own_Le h.own hl⟩
theorem DI.chg {b lo hi : Nat} {w w' : World} {gv cap k : Nat} {xs : List Int} (h : DI b w gv cap k xs) (hc : Chg lo hi w w') (hb : hi ≤ b) : DI b w' gv cap k xs := ⟨h.len, h.small, h.kcap, h.capm, Chg.own2 h.own hc hb⟩
/-- lots, drawn from a reader -/
theorem lots_dl (W w : World) (g : Nat) (A : Option Addr) (n c p N : Nat) (h : Rd W w g A n c p) (hp : p ≤ 900000) (h1 : 1 ≤ N) (h2 : N ≤ 1000) (b : Nat) (hb : b ≤ w.heap.size) :
    Calls Tryd.prog 14 #[.pointer (some ⟨g, 0, none⟩), .int .i64 (N : Int)] w fun e w' => ∃ gv cap k ps p', e = .returned (.slice (some ⟨gv, 0, none⟩) k cap) ∧ DL b w' gv cap k ps ∧ Rd W w' g A n c p' ∧ p' ≤ p + 100 ∧ Chg g (g + 1) w w' := by
  refine (l20Lots_any W w g A n c p N h hp h1 h2).mono ?_
  rintro e w' ⟨gv, cap, ps, p', rfl, o, m, r, hq, hc⟩
  exact ⟨gv, cap, ps.length, ps, p', rfl, ⟨rfl, m, (own_cap o).1, (own_cap o).2, own_mono o hb⟩, r, hq, hc⟩
theorem wants_di (W w : World) (g : Nat) (A : Option Addr) (n c p N : Nat) (h : Rd W w g A n c p) (hp : p ≤ 900000) (h1 : 1 ≤ N) (h2 : N ≤ 1000) (b : Nat) (hb : b ≤ w.heap.size) :
    Calls Tryd.prog 15 #[.pointer (some ⟨g, 0, none⟩), .int .i64 (N : Int)] w fun e w' => ∃ gv cap k xs p', e = .returned (.slice (some ⟨gv, 0, none⟩) k cap) ∧ DI b w' gv cap k xs ∧ Rd W w' g A n c p' ∧ p' ≤ p + 100 ∧ Chg g (g + 1) w w' := by
  refine (l20Wants_any W w g A n c p N h hp h1 h2).mono ?_
  rintro e w' ⟨gv, cap, ps, p', rfl, o, m, r, hq, hc⟩
  exact ⟨gv, cap, ps.length, ps, p', rfl, ⟨rfl, m, (own_cap o).1, (own_cap o).2, own_mono o hb⟩, r, hq, hc⟩

theorem results_tmp3 {fn : Func} {t u v : Tmp} (h : fn.results = #[.tmp t, .tmp u, .tmp v]) (tmps : Array Value) (P : Program) (w : World) :
    (results fn tmps).run P w = .ok (.tuple #[tmps.getD t undef, tmps.getD u undef, tmps.getD v undef]) w := by
  simp [results, h]

theorem DL.base {b b' : Nat} {w : World} {gv cap k : Nat} {ps : List (Int × Int)} (h : DL b w gv cap k ps) (hb : b' ≤ b) : DL b' w gv cap k ps := ⟨h.len, h.small, h.kcap, h.capm, own_mono h.own hb⟩
theorem DI.base {b b' : Nat} {w : World} {gv cap k : Nat} {xs : List Int} (h : DI b w gv cap k xs) (hb : b' ≤ b) : DI b' w gv cap k xs := ⟨h.len, h.small, h.kcap, h.capm, own_mono h.own hb⟩
set_option maxRecDepth 20000 in
set_option maxHeartbeats 400000 in
theorem lawSum_any (A : Option Addr) (n c : Nat) (xs : List Int) (w : World) (h : RI w A n xs) :
    Calls Tryd.prog 7 #[.slice A n c] w fun e w' => e = .returned (.int .i64 (sumW (gi xs) n)) ∧ w = w' := by
  have hm := h.max
  have HC := Lib.hid h.at_
  clear h
  go_enter Tryd.func7, Tryd.ntmps7
  go_wp2
  go_loop [3, 4] (fun v i => ∃ k : Nat, k ≤ n ∧ i = .int .i64 k ∧ v = .int .i64 (sumW (gi xs) k)) (fun _ i => n - (intOf i).toNat)
  case atStart => exact ⟨0, Nat.zero_le _, rfl, rfl⟩
  case round =>
    obtain ⟨k, hk, rfl, rfl⟩ := hrel
    by_cases hlt : k < n
    · obtain ⟨ad, rfl, hcell⟩ := HC.out k hlt
      go_wp2
      go_round
      case rel => exact ⟨k + 1, by omega, by go_num, by rw [sumW_succ]⟩
      case measure => simp [intOf]; omega
    · go_wp2
      go_ret
      obtain rfl : k = n := by omega
      exact ⟨rfl, rfl⟩

end Go.Proofs.YtmemenkioejdoaaDoor
