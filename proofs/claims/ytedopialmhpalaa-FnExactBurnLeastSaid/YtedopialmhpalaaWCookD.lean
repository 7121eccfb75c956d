/- Walks: BurnList of the program and of the reference. -/
import Derived.Test.YtedopialmhpalaaWCookC
namespace Go.Proofs.Ytedopialmhpalaa
open Go.RowKit

/-- the first place of the least of f 0 .. f (m-1) -/
def best (f : Nat → Int) : Nat → Nat
  | 0 => 0
  | m + 1 => if f m < f (best f m) then m else best f m
theorem best_succ (f : Nat → Int) (m : Nat) : best f (m + 1) = if f m < f (best f m) then m else best f m := rfl
theorem best_lt (f : Nat → Int) (m : Nat) (h : 0 < m) : best f m < m := by
  induction m with
  | zero => omega
  | succ m ih =>
    rw [best_succ]
    split
    · omega
    · rcases Nat.eq_zero_or_pos m with e | e
      · subst e; simp [best]
      · have := ih e; omega
theorem best_congr {f g : Nat → Int} {m : Nat} (h : ∀ j, j < m → f j = g j) : best f m = best g m := by
  induction m with
  | zero => rfl
  | succ m ih =>
    have e := ih (fun j hj => h j (by omega))
    rw [best_succ, best_succ, e]
    rcases Nat.eq_zero_or_pos m with e0 | e0
    · subst e0; simp [best]
    · rw [h m (by omega), h (best g m) (by have := best_lt g m e0; omega)]

/-- when each burner is free, behind the first k spans -/
def freeAt (spans : List Int) (bn : Nat) : Nat → Nat → Int
  | 0, _ => 0
  | k + 1, j => if best (freeAt spans bn k) bn = j then freeAt spans bn k j + gi spans k else freeAt spans bn k j
def bestAt (spans : List Int) (bn k : Nat) : Nat := best (freeAt spans bn k) bn
theorem freeAt_succ (spans : List Int) (bn k j : Nat) : freeAt spans bn (k + 1) j = if bestAt spans bn k = j then freeAt spans bn k j + gi spans k else freeAt spans bn k j := rfl
theorem freeAt_bound {spans : List Int} (bn : Nat) (h : ∀ k, k < spans.length → 0 ≤ gi spans k ∧ gi spans k ≤ 30) : ∀ k, k ≤ spans.length → ∀ j, 0 ≤ freeAt spans bn k j ∧ freeAt spans bn k j ≤ 30 * k := by
  intro k
  induction k with
  | zero => intro _ j; simp [freeAt]
  | succ k ih =>
    intro hk j
    have h1 := ih (by omega) j
    have h2 := h k (by omega)
    rw [freeAt_succ]
    split <;> omega
def burnListL (spans : List Int) (burners : Int) : List Int := if (spansL spans && inB 1 3 burners) = true then (List.range spans.length).map (fun k => ((bestAt spans burners.toNat k : Nat) : Int)) else []

theorem ofRange_gi (n : Nat) (f : Nat → Int) {j : Nat} (h : j < n) : gi ((List.range n).map f) j = f j := by
  unfold gi; rw [List.getD_eq_getElem?_getD, List.getElem?_map, List.getElem?_range h]; rfl

set_option maxHeartbeats 1000000 in
theorem implBurnList_any (A : Option Addr) (n c : Nat) (spans : List Int) (burners : Int) (w : World) (h : RI w A n spans) :
    Calls Try.prog 30 #[.slice A n c, .int .i64 burners] w fun e w' => ∃ v, e = .returned v ∧ w'.ownsRow w.heap.size 3 1 v (burnListL spans burners).length (ints (burnListL spans burners)) ∧ Le w w' := by
  have hc := implSpansValid_any A n c spans w h
  cases hs : spansL spans
  · have e0 : burnListL spans burners = [] := by simp [burnListL, hs]
    rw [hs] at hc
    rw [e0]
    have HC := Lib.hid hc
    clear hc hs e0
    go_enter Try.func30, Try.ntmps30
    go_wp2_with (go_at_call 16; refine HC.out.mono ?_; rintro e w' ⟨rfl, rfl⟩)
    go_ret
    exact ⟨_, rfl, World.ownsRow_nil _ _ _ _, Le.refl _⟩
  · rw [hs] at hc
    have HC := Lib.hid hc
    by_cases hbr : 1 ≤ burners ∧ burners ≤ 3
    · have e0 : burnListL spans burners = (List.range spans.length).map (fun k => ((bestAt spans burners.toNat k : Nat) : Int)) := by
        unfold burnListL; rw [hs, inB_t.2 hbr]; rfl
      obtain ⟨hn6, hsp⟩ := spans_bound hs
      obtain ⟨hb1, hb3⟩ := hbr
      obtain ⟨bn, rfl⟩ : ∃ bn : Nat, burners = bn := ⟨burners.toNat, by omega⟩
      have HE := Lib.hid e0
      have HL := Lib.hid h.len
      have HCS := Lib.hid h.at_
      have hfb := freeAt_bound bn hsp
      rw [HL.out] at hn6 hsp hfb
      have HSP := Lib.hid hsp
      have HFB := Lib.hid hfb
      clear hc hs e0 h hsp hfb
      have hmk := run_mk (P := Try.prog) 23 3 (.int .i64 0) 1 8 Try.underlying23 infoInt bn (by omega) (by omega)
      have hmk2 := run_mk (P := Try.prog) 23 3 (.int .i64 0) 1 8 Try.underlying23 infoInt n (by omega) (by omega)
      go_enter Try.func30, Try.ntmps30
      go_wp2_with (go_at_call 16; refine HC.out.mono ?_; rintro e w' ⟨rfl, rfl⟩)
      clear hmk hmk2
      go_loopw [29] (fun i wr => ∃ k : Nat, k ≤ n ∧ i = .int .i64 k ∧ Le w wr ∧ (∃ cs, Blk wr w.heap.size 3 cs ∧ cs.size = bn ∧ ∀ b : Nat, b < bn → cs[b]? = some (.int .i64 (freeAt spans bn k b))) ∧
          ∃ cs, Blk wr (w.heap.size + 1) 3 cs ∧ Filled cs n (fun j => .int .i64 (bestAt spans bn j : Nat)) (fun _ => .int .i64 0) k) (fun i _ => n - (intOf i).toNat)
      case atStart =>
        refine ⟨0, Nat.zero_le _, rfl, ((Le.refl _).alloc _).alloc _, ⟨_, (Blk.new _ _ _).alloc _, by simp [made_size], fun b hb => ?_⟩, _, by simpa using Blk.new (w.alloc _) _ _, ?_⟩
        · have := made_get (.int .i64 0) bn b hb
          simpa [freeAt] using this
        · simpa using Filled.made n _ _
      case round =>
        obtain ⟨k, hk, rfl, hle, ⟨cs, hblk, hsz, hcs⟩, cs2, hblk2, hfill⟩ := hrel
        by_cases hlt : k < n
        · obtain ⟨ad, rfl, hc1⟩ := HCS.out k hlt
          have c1 := hle.cell hc1
          have HCC := Lib.hid hcs
          have HSZ := Lib.hid hsz
          have HB1 := Lib.hid hblk
          have HB2 := Lib.hid hblk2
          have HF := Lib.hid hfill
          have HLE := Lib.hid hle
          clear hc1 hcs hsz hblk hblk2 hfill hle
          go_wp2
          go_loopw [9, 36] (fun v i ws => ∃ m : Nat, m ≤ bn ∧ i = .int .i64 m ∧ v = .int .i64 (best (freeAt spans bn k) m : Nat) ∧ ∃ q, ws = wr.drewN q) (fun _ i _ => bn - (intOf i).toNat)
          case atStart => exact ⟨0, Nat.zero_le _, rfl, rfl, 0, rfl⟩
          case round =>
            obtain ⟨m, hm, rfl, rfl, q, rfl⟩ := hrel
            by_cases hltm : m < bn
            · have hbm : best (freeAt spans bn k) m < bn := by
                rcases Nat.eq_zero_or_pos m with e | e
                · subst e; simpa [best] using hltm
                · have := best_lt (freeAt spans bn k) m e; omega
              have d1 := (HB1.out.cell m).trans (HCC.out m hltm)
              have d2 := (HB1.out.cell (best (freeAt spans bn k) m)).trans (HCC.out _ hbm)
              by_cases hlss : freeAt spans bn k m < freeAt spans bn k (best (freeAt spans bn k) m)
              · have hd : decide (freeAt spans bn k m < freeAt spans bn k (best (freeAt spans bn k) m)) = true := by simpa using hlss
                have HLS := Lib.hid hlss
                clear hlss
                go_wp2
                go_quiet (fail)
                go_wp2
                go_roundw
                case rel => exact ⟨m + 1, by omega, by go_num, by rw [best_succ, if_pos HLS.out], ⟨_, rfl⟩⟩
                case measure => simp [intOf]; omega
              · have hd : decide (freeAt spans bn k m < freeAt spans bn k (best (freeAt spans bn k) m)) = false := by simpa using hlss
                have HLS := Lib.hid hlss
                clear hlss
                go_wp2
                go_quiet (fail)
                go_wp2
                go_roundw
                case rel => exact ⟨m + 1, by omega, by go_num, by rw [best_succ, if_neg (by have := HLS.out; omega)], ⟨_, rfl⟩⟩
                case measure => simp [intOf]; omega
            · obtain rfl : m = bn := by omega
              have hb := best_lt (freeAt spans m k) m (by omega)
              have d1 := (HB1.out.cell (best (freeAt spans m k) m)).trans (HCC.out _ hb)
              have z1 := HB1.out.frozen (best (freeAt spans m k) m)
              have d2 := (HB2.out.cell k).trans (HF.out.now hlt)
              have z2 := HB2.out.frozen k
              have bd := HFB.out k hk (best (freeAt spans m k) m)
              have bs := HSP.out k hlt
              go_wp2
              go_roundw
              case rel =>
                refine ⟨k + 1, by omega, by go_num, (((HLE.out.drewN q).setCell (by simp) _).setCell (by simp) _), ⟨_, (((HB1.out.drewN q).far (by simp) _).set_ _ _), by simp [HSZ.out], fun b hb' => ?_⟩, _, (((HB2.out.drewN q).set_ _ _).far (by simp) _), HF.out.set_ hlt rfl⟩
                rw [Array.getElem?_setIfInBounds, freeAt_succ]
                unfold bestAt
                by_cases e : best (freeAt spans m k) m = b
                · subst e; simp [HSZ.out, hb]
                · rw [if_neg e, if_neg e, HCC.out b hb']
              case measure => simp [intOf]; omega
        · obtain rfl : k = n := by omega
          go_wp2
          go_ret
          have hl : ((List.range spans.length).map (fun k => ((bestAt spans bn k : Nat) : Int))).length = k := by simp [HL.out]
          have e2 := hfill.toList hlt (ints ((List.range spans.length).map (fun k => ((bestAt spans bn k : Nat) : Int)))) (by rw [ints_length, hl]) (fun j hj => by
            rw [ints_getElem? (by rw [hl]; exact hj), HL.out, ofRange_gi k _ hj])
          subst e2
          refine ⟨_, rfl, ?_, hle⟩
          rw [HE.out, show ((bn : Int)).toNat = bn by omega, hl]
          exact hblk2.ownI (by omega) hl (by omega)
    · have e0 : burnListL spans burners = [] := by
        unfold burnListL; rw [inB_f.2 (by omega)]; simp
      rw [e0]
      clear hc hs e0 h
      by_cases h1 : burners < 1
      · go_enter Try.func30, Try.ntmps30
        go_wp2_with (go_at_call 16; refine HC.out.mono ?_; rintro e w' ⟨rfl, rfl⟩)
        go_ret
        exact ⟨_, rfl, World.ownsRow_nil _ _ _ _, Le.refl _⟩
      · have h2 : 3 < burners := by omega
        go_enter Try.func30, Try.ntmps30
        go_wp2_with (go_at_call 16; refine HC.out.mono ?_; rintro e w' ⟨rfl, rfl⟩)
        go_ret
        exact ⟨_, rfl, World.ownsRow_nil _ _ _ _, Le.refl _⟩

end Go.Proofs.Ytedopialmhpalaa
