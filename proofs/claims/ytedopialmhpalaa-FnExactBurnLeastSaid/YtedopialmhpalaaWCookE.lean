/- Walks: BurnList of the reference. -/
import Derived.Test.YtedopialmhpalaaWCookD
import Derived.Maps.AppendAt
import Derived.StillTailTactics
namespace Go.Proofs.Ytedopialmhpalaa
open Go.RowKit

theorem ints_append (xs ys : List Int) : ints (xs ++ ys) = ints xs ++ ints ys := by simp [ints]

/-- the first k places -/
def bests (spans : List Int) (bn k : Nat) : List Int := (List.range k).map fun j => ((bestAt spans bn j : Nat) : Int)
theorem bests_succ (spans : List Int) (bn k : Nat) : bests spans bn (k + 1) = bests spans bn k ++ [((bestAt spans bn k : Nat) : Int)] := by
  unfold bests; rw [List.range_succ, List.map_append]; rfl

theorem own_empty (w : World) (e : TypeId) (size : Nat) : (w.alloc (.cells #[] e)).ownsRow w.heap.size e size (.slice (some ⟨w.heap.size, 0, none⟩) 0 0) 0 [] :=
  World.ownsRow_made w #[] 0 (Nat.le_refl _) (by unfold maxLen; omega) (by simp)
/-- an owned row, while another block is written or made -/
theorem own_le {w w' : World} {base : Nat} {e : TypeId} {size : Nat} {v : Value} {n : Nat} {xs : List Value} (h : w.ownsRow base e size v n xs) (hl : Le w w') : w'.ownsRow base e size v n xs := by
  obtain ⟨h1, h2⟩ := h
  refine ⟨h1, ?_⟩
  rcases h2 with h2 | ⟨g, cap, cur, hv, hg, hh, r⟩
  · exact Or.inl h2
  · exact Or.inr ⟨g, cap, cur, hv, hg, (Blk.le (t := e) hh hl), r⟩
theorem cell_one (w : World) (n : Nat) (hn : w.heap.size = n) (v : Value) (t : TypeId) : ∀ j u, [v][j]? = some u → ((w.alloc (.cells #[v] t)).drew).cell? ((⟨n, 0, none⟩ : Addr).add j) = some u := by
  subst hn
  exact cell_one_new w v t
theorem own_drew {w : World} {base : Nat} {e : TypeId} {size : Nat} {v : Value} {n : Nat} {xs : List Value} (h : w.ownsRow base e size v n xs) : w.drew.ownsRow base e size v n xs := h
theorem own_far {w : World} {base : Nat} {e : TypeId} {size : Nat} {v : Value} {n : Nat} {xs : List Value} (h : w.ownsRow base e size v n xs) {p : Addr} (hp : v.ownBlock ≠ some p.block) (u : Value) : (w.setCell p u).ownsRow base e size v n xs := by
  obtain ⟨h1, h2⟩ := h
  refine ⟨h1, ?_⟩
  rcases h2 with h2 | ⟨g, cap, cur, hv, hg, hh, r⟩
  · exact Or.inl h2
  · subst hv
    exact Or.inr ⟨g, cap, cur, rfl, hg, (Blk.far (t := e) hh (fun e => hp (by simp [Value.ownBlock, e])) u), r⟩

set_option maxHeartbeats 2000000 in
theorem specBurnList_any (A : Option Addr) (n c : Nat) (spans : List Int) (burners : Int) (w : World) (h : RI w A n spans) :
    Calls Try.prog 29 #[.slice A n c, .int .i64 burners] w fun e w' => ∃ v, e = .returned v ∧ w'.ownsRow w.heap.size 3 1 v (burnListL spans burners).length (ints (burnListL spans burners)) ∧ Le w w' := by
  have hc := fun w' (l : Le w w') => specSpansValid_any A n c spans w' (h.le l)
  cases hs : spansL spans
  · have e0 : burnListL spans burners = [] := by simp [burnListL, hs]
    rw [e0]
    have HC := Lib.hid hc
    clear hc e0
    go_enter Try.func29, Try.ntmps29
    go_wp2_with (go_at_call 14; refine (HC.out _ ((Le.refl _).alloc _)).mono ?_; rintro e w' ⟨rfl, rfl⟩)
    go_ret
    exact ⟨_, rfl, own_empty _ _ _, (Le.refl _).alloc _⟩
  · have HC := Lib.hid hc
    cases hbr : inB 1 3 burners
    · have e0 : burnListL spans burners = [] := by simp [burnListL, hbr]
      rw [e0]
      clear hc e0
      go_enter Try.func29, Try.ntmps29
      go_wp2_with (first
        | (go_at_call 14; refine (HC.out _ ((Le.refl _).alloc _)).mono ?_; rintro e w' ⟨rfl, rfl⟩)
        | (go_at_call 44; refine (l1In_any _ _ _ _).mono ?_; rintro e w' ⟨rfl, rfl⟩))
      go_ret
      exact ⟨_, rfl, own_empty _ _ _, (Le.refl _).alloc _⟩
    · have e0 : burnListL spans burners = bests spans burners.toNat spans.length := by
        unfold burnListL bests; rw [hs, hbr]; rfl
      obtain ⟨hn6, hsp⟩ := spans_bound hs
      obtain ⟨hb1, hb3⟩ := inB_t.1 hbr
      obtain ⟨bn, rfl⟩ : ∃ bn : Nat, burners = bn := ⟨burners.toNat, by omega⟩
      have HE := Lib.hid e0
      have HL := Lib.hid h.len
      have HCS := Lib.hid h.at_
      have hfb := freeAt_bound bn hsp
      rw [HL.out] at hn6 hsp hfb
      have HSP := Lib.hid hsp
      have HFB := Lib.hid hfb
      clear hc e0 h hsp hfb
      obtain ⟨i0, hi0, hz0, hz1, hz2⟩ := info_parts infoInt
      have hmk := run_mk (P := Try.prog) 23 3 (.int .i64 0) 1 8 Try.underlying23 infoInt bn (by omega) (by omega)
      go_enter Try.func29, Try.ntmps29
      go_wp2_with (first
        | (go_at_call 14; refine (HC.out _ ((Le.refl _).alloc _)).mono ?_; rintro e w' ⟨rfl, rfl⟩)
        | (go_at_call 44; refine (l1In_any _ _ _ _).mono ?_; rintro e w' ⟨rfl, rfl⟩))
      clear hmk
      go_loopw [5, 7] (fun v i wr => ∃ k : Nat, k ≤ n ∧ i = .int .i64 k ∧ Le w wr ∧ wr.ownsRow w.heap.size 3 1 v k (ints (bests spans bn k)) ∧ v.ownBlock ≠ some (w.heap.size + 1) ∧
          ∃ cs, Blk wr (w.heap.size + 1) 3 cs ∧ cs.size = bn ∧ ∀ b : Nat, b < bn → cs[b]? = some (.int .i64 (freeAt spans bn k b))) (fun _ i _ => n - (intOf i).toNat)
      case atStart =>
        refine ⟨0, Nat.zero_le _, rfl, ((Le.refl _).alloc _).alloc _, own_le (own_empty w _ _) ((Le.refl _).alloc _), by simp [Value.ownBlock], _, by simpa using Blk.new (w.alloc _) _ _, by simp [made_size], fun b hb => ?_⟩
        have := made_get (.int .i64 0) bn b hb
        simpa [freeAt] using this
      case round =>
        obtain ⟨k, hk, rfl, hle, hown, hne, cs, hblk, hsz, hcs⟩ := hrel
        by_cases hlt : k < n
        · obtain ⟨ad, rfl, hc1⟩ := HCS.out k hlt
          have c1 := hle.cell hc1
          have HCC := Lib.hid hcs
          have HSZ := Lib.hid hsz
          have HB1 := Lib.hid hblk
          have HO := Lib.hid hown
          have HN := Lib.hid hne
          have HLE := Lib.hid hle
          clear hc1 hcs hsz hblk hown hne hle
          go_wp2
          go_loopw [8, 9] (fun v i ws => ∃ m : Nat, 1 ≤ m ∧ m ≤ bn ∧ i = .int .i64 m ∧ v = .int .i64 (best (freeAt spans bn k) m : Nat) ∧ Le wr ws) (fun _ i _ => bn - (intOf i).toNat)
          case atStart => exact ⟨1, by omega, by omega, rfl, by simp [best], Le.refl _⟩
          case round =>
            obtain ⟨m, hm1, hm, rfl, rfl, hlw⟩ := hrel
            have HB2 := Lib.hid (HB1.out.le hlw)
            have c2 := hlw.cell c1
            clear c1
            have HLW := Lib.hid hlw
            clear hlw
            by_cases hltm : m < bn
            · have hbm : best (freeAt spans bn k) m < bn := by have := best_lt (freeAt spans bn k) m (by omega); omega
              have d1 := (HB2.out.cell m).trans (HCC.out m hltm)
              have d2 := (HB2.out.cell (best (freeAt spans bn k) m)).trans (HCC.out _ hbm)
              by_cases hlss : freeAt spans bn k m < freeAt spans bn k (best (freeAt spans bn k) m)
              · have hd : decide (freeAt spans bn k m < freeAt spans bn k (best (freeAt spans bn k) m)) = true := by simpa using hlss
                have HLS := Lib.hid hlss
                clear hlss
                go_wp2
                go_quiet (fail)
                go_wp2
                go_roundw
                case rel => exact ⟨m + 1, by omega, by omega, by go_num, by rw [best_succ, if_pos HLS.out], HLW.out.drewN _⟩
                case measure => simp [intOf]; omega
              · have hd : decide (freeAt spans bn k m < freeAt spans bn k (best (freeAt spans bn k) m)) = false := by simpa using hlss
                have HLS := Lib.hid hlss
                clear hlss
                go_wp2
                go_quiet (fail)
                go_wp2
                go_roundw
                case rel => exact ⟨m + 1, by omega, by omega, by go_num, by rw [best_succ, if_neg (by have := HLS.out; omega)], HLW.out.drewN _⟩
                case measure => simp [intOf]; omega
            · obtain rfl : m = bn := by omega
              have hb := best_lt (freeAt spans m k) m (by omega)
              have d1 := (HB2.out.cell (best (freeAt spans m k) m)).trans (HCC.out _ hb)
              have z1 := HB2.out.frozen (best (freeAt spans m k) m)
              have bd := HFB.out k hk (best (freeAt spans m k) m)
              have bs := HSP.out k hlt
              go_wp2
              go_still_tail 12, (by kernel_rfl)
              change wpList _ _ _ _ _ wr.drew
              go_wp2_with (at_builtin; refine wpList_append_own_at _ rfl (.tmp 55) (.tmp 57) _ rfl w.heap.size 3 i0 (.int .i64 0) 1 8 Try.underlying23 hi0 hz0 hz1 hz2 rfl (by decide) _ k (ints (bests spans m k)) rfl ?hown ⟨wr.heap.size, 0, none⟩ 1 1 [.int .i64 (best (freeAt spans m k) m : Nat)] rfl rfl ?c1 ?c2 ?c3 ?c4 ?c5 ?_)
              case hown => exact own_drew ((own_far (own_le HO.out HLW.out) HN.out _).alloc _)
              case c1 => exact cell_one _ _ (by simp) _ _
              case c2 => intro u hu; simp at hu; subst hu; rfl
              case c3 => unfold maxLen; omega
              case c4 => omega
              case c5 => have h1 := HLE.out.size; have h2 := HLW.out.size; simp; omega
              · intro v' w1 hown' hgrow _ hat
                have HO2 := Lib.hid hown'
                have HG := Lib.hid hgrow
                have HA := Lib.hid hat
                clear hown' hgrow hat
                go_wp2
                go_roundw
                case rel =>
                  have lt := HO.out.lt
                  have bl := HB2.out.lt
                  refine ⟨k + 1, by omega, by go_num, ((((HLE.out.trans HLW.out).setCell (by simp) _).alloc _).drew.grown HG.out fun g hg => (lt g hg).1), ?_, ?_, _, (((HB2.out.set_ _ _).alloc _).drew.grown HG.out (fun e => HN.out e.symm)), by simp [HSZ.out], fun b hb' => ?_⟩
                  · rw [bests_succ, ints_append]; exact HO2.out
                  · rcases HA.out with e | e <;> rw [e]
                    · exact HN.out
                    · intro hh; injection hh with hh; omega
                  · rw [Array.getElem?_setIfInBounds, freeAt_succ]
                    unfold bestAt
                    by_cases e : best (freeAt spans m k) m = b
                    · subst e; simp [HSZ.out, hb]
                    · rw [if_neg e, if_neg e, HCC.out b hb']
                case measure => simp [intOf]; omega
        · obtain rfl : k = n := by omega
          go_wp2
          go_ret
          refine ⟨_, rfl, ?_, hle⟩
          rw [HE.out, show ((bn : Int)).toNat = bn by omega, HL.out]
          have : (bests spans bn k).length = k := by simp [bests]
          rw [this]
          exact hown

end Go.Proofs.Ytedopialmhpalaa
