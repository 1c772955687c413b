/- SnapFeeds: what was lent is as it was. Conditions: at most 33554431 events. -/
import Derived.Test.YtiiflgihjnlmcaaEv2
namespace Go.Proofs.Ytiiflgihjnlmcaa
set_option linter.unusedVariables false
set_option linter.unusedSimpArgs false
open Go.RowKit Go.Proofs.YtiiflgihjnlmcaaW.PrintWords Go.Proofs.YtiiflgihjnlmcaaW.PrintLast Go.Proofs.YtiiflgihjnlmcaaW.PrintMore Go.Proofs.Ytiiflgihjnlmcaa.PSnapFeeds

theorem same_le (l : List S161) (hl : (l.length : Int) ≤ 9223372036854775806) : ∀ (d i k : Nat), i + d = l.length → d < k → tripwireref00_SameEvents.l0 k l l (i : Int) = some true := by
  intro d
  induction d with
  | zero =>
    intro i k hi hk
    obtain ⟨j, rfl⟩ : ∃ j, k = j + 1 := ⟨k - 1, by omega⟩
    simp only [tripwireref00_SameEvents.l0]
    rw [if_neg (by omega)]
  | succ d ih =>
    intro i k hi hk
    obtain ⟨j, rfl⟩ : ∃ j, k = j + 1 := ⟨k - 1, by omega⟩
    simp only [tripwireref00_SameEvents.l0]
    rw [if_pos (by omega), if_pos (by omega), if_pos (by omega), if_neg (by simp), show wrap64 ((i : Int) + 1) = ((i + 1 : Nat) : Int) by unfold wrap64; omega]
    exact ih (i + 1) j (by omega) (by omega)
theorem same_events (l : List S161) (hl : (l.length : Int) ≤ 9223372036854775806) (k : Nat) (hk : l.length < k) : tripwireref00_SameEvents.f k l l = some true := by
  unfold tripwireref00_SameEvents.f
  rw [if_pos rfl]
  exact same_le l hl l.length 0 k (by omega) hk
theorem same_lf (l : List S158) (hl : (l.length : Int) ≤ 9223372036854775806) : ∀ (d i k : Nat), i + d = l.length → d < k → tripwireref00_SameFeeds.l0 k l l (i : Int) = some true := by
  intro d
  induction d with
  | zero =>
    intro i k hi hk
    obtain ⟨j, rfl⟩ : ∃ j, k = j + 1 := ⟨k - 1, by omega⟩
    simp only [tripwireref00_SameFeeds.l0]
    rw [if_neg (by omega)]
  | succ d ih =>
    intro i k hi hk
    obtain ⟨j, rfl⟩ : ∃ j, k = j + 1 := ⟨k - 1, by omega⟩
    simp only [tripwireref00_SameFeeds.l0]
    rw [if_pos (by omega), if_pos (by omega), if_pos (by omega), if_neg (by simp), show wrap64 ((i : Int) + 1) = ((i + 1 : Nat) : Int) by unfold wrap64; omega]
    exact ih (i + 1) j (by omega) (by omega)
theorem same_fd (l : List S158) (hl : (l.length : Int) ≤ 9223372036854775806) (k : Nat) (hk : l.length < k) : tripwireref00_SameFeeds.f k l l = some true := by
  unfold tripwireref00_SameFeeds.f
  rw [if_pos rfl]
  exact same_lf l hl l.length 0 k (by omega) hk

theorem ev_blk {w : World} {g n : Nat} {xs : List S161} {tl : List Value} {t : TypeId} (hn : xs.length = n) (h : w.heap[g]? = some (.cells (evV xs ++ tl).toArray t (0, 0))) (cap : Nat) : EvIn w (some ⟨g, 0, none⟩) n cap (evV xs) ∧ ∀ j v, tl[j]? = some v → w.cell? ⟨g, n * 9 + j, none⟩ = some v := by
  have hc : ∀ j v, (evV xs ++ tl)[j]? = some v → w.cell? ⟨g, j, none⟩ = some v := fun j v hv => by
    rw [cell_of_row w g j _ _ _ h]; simpa using hv
  refine ⟨.inr ⟨_, rfl, fun j u hu => ?_⟩, fun j v hv => hc _ v ?_⟩
  · rw [show (⟨g, 0, none⟩ : Addr).add j = ⟨g, j, none⟩ by unfold Addr.add; split <;> simp_all]
    exact hc j u (by rw [List.getElem?_append_left (List.getElem?_eq_some_iff.1 hu).1]; exact hu)
  · rw [List.getElem?_append_right (by rw [evV_length]; omega), evV_length, hn, Nat.add_sub_cancel_left]; exact hv

set_option maxHeartbeats 4000000 in
set_option maxRecDepth 100000 in
theorem s_wholeE (w : World) (g n : Nat) (xs : List S161) (hblk : w.heap[g]? = some (.cells (evV xs ++ marksE).toArray 161 (0, 0))) (hn : xs.length = n) (a : Option Addr) (cap : Nat) (hcap : n ≤ cap) (ha : EvIn w a n cap (evV xs)) (hN : n ≤ 33554431) :
    Calls Try.prog 59 #[.slice (some ⟨g, 0, none⟩) n (n + 2), .slice a n cap] w fun e w' => e = .returned (.bool true) ∧ Only (fun _ => False) w w' := by
  obtain ⟨hf, hm⟩ := ev_blk hn hblk (n + 2)
  have hsame := tripwireref00_SameEvents.calls (n + 1) (some ⟨g, 0, none⟩) (n + 2) xs a cap xs true w (by rw [hn]; exact hf.reads hn (by omega)) (by omega) (by rw [hn]; exact ha.reads hn (by omega)) (by omega) (same_events _ (by omega) _ (by omega))
  rw [hn] at hsame
  have HS := Lib.hid hsame
  have m0 := hm 0 _ rfl
  have m1 := hm 1 _ rfl
  have m2 := hm 2 _ rfl
  have m3 := hm 3 _ rfl
  have m4 := hm 4 _ rfl
  have m5 := hm 5 _ rfl
  have m6 := hm 6 _ rfl
  have m7 := hm 7 _ rfl
  have m8 := hm 8 _ rfl
  have m9 := hm 9 _ rfl
  have m10 := hm 10 _ rfl
  have m11 := hm 11 _ rfl
  have m12 := hm 12 _ rfl
  have m13 := hm 13 _ rfl
  have m14 := hm 14 _ rfl
  have m15 := hm 15 _ rfl
  have m16 := hm 16 _ rfl
  have m17 := hm 17 _ rfl
  rw [Nat.add_zero] at m0
  rw [show n * 9 + 9 = (n + 1) * 9 by omega] at m9
  rw [show n * 9 + 10 = (n + 1) * 9 + 1 by omega] at m10
  rw [show n * 9 + 11 = (n + 1) * 9 + 2 by omega] at m11
  rw [show n * 9 + 12 = (n + 1) * 9 + 3 by omega] at m12
  rw [show n * 9 + 13 = (n + 1) * 9 + 4 by omega] at m13
  rw [show n * 9 + 14 = (n + 1) * 9 + 5 by omega] at m14
  rw [show n * 9 + 15 = (n + 1) * 9 + 6 by omega] at m15
  rw [show n * 9 + 16 = (n + 1) * 9 + 7 by omega] at m16
  rw [show n * 9 + 17 = (n + 1) * 9 + 8 by omega] at m17
  have w1 : IntKind.i64.wrap ((n : Int) + 2) = (n : Int) + 2 := by rw [IntKind.wrap_i64]; omega
  have w2 : IntKind.i64.wrap ((n : Int) + 1) = (n : Int) + 1 := by rw [IntKind.wrap_i64]; omega
  clear hsame hm hf hblk ha hn
  go_enter Try.func59, Try.ntmps59
  go_wp2_with fail
  refine HS.out.mono ?_
  rintro e w7 ⟨rfl, ⟨nn, rfl⟩⟩
  go_wp2_with fail
  go_returns
  exact ⟨by rfl, by repeat' (first | (with_reducible exact Only.refl _ _) | (with_reducible assumption) | (refine Only.of_none ?_; with_reducible assumption) | (with_reducible refine Only.drewN ?_ _) | (with_reducible refine Only.drew ?_) | (with_reducible refine Only.alloc ?_ _) | (with_reducible refine Only.setCell ?_ ?_ _) | (with_reducible refine Only.then0 ?_ (by with_reducible assumption)) | (with_reducible refine Only.thenN ?_ (by with_reducible assumption) ?_) | (with_reducible refine Only.trans ?_ (by with_reducible assumption)) | (refine .inl ?_; first | rfl | (simp; done) | (simp [Ar.blk]; done)) | (refine .inr ?_; first | omega | (simp; done) | (simp; omega) | exact Only.size (by with_reducible assumption) | (refine Nat.le_trans (Only.size (by with_reducible assumption)) ?_; simp; done)))⟩
end Go.Proofs.Ytiiflgihjnlmcaa
