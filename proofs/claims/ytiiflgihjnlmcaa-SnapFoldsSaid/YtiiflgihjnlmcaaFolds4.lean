/- SnapFolds: what was lent is as it was. Conditions: at most 67108863 feeds. -/
import Derived.Test.YtiiflgihjnlmcaaFolds3
import Derived.Test.YtiiflgihjnlmcaaPSnapFoldsx3
namespace Go.Proofs.Ytiiflgihjnlmcaa
set_option linter.unusedVariables false
set_option linter.unusedSimpArgs false
open Go.RowKit Go.Proofs.YtiiflgihjnlmcaaW.PrintWords Go.Proofs.YtiiflgihjnlmcaaW.PrintLast Go.Proofs.YtiiflgihjnlmcaaW.PrintMore Go.Proofs.Ytiiflgihjnlmcaa.PSnapFolds

def toS (x : Int × Int × Int) : S158 := ⟨x.1, x.2.1, x.2.2⟩
theorem C_feeds {w : World} {A : Option Addr} {n : Nat} {xs : List (Int × Int × Int)} (h : FeedsAt w A xs) (hn : xs.length = n) (hle : n ≤ 9223372036854775807) : Kd.C k158 w A n (xs.map toS) := by
  refine ⟨by rw [List.length_map]; exact hn, hle, fun h0 => ?_⟩
  obtain ⟨B, off, ha, _⟩ := h 0 (xs[0]'(by omega)) (List.getElem?_eq_getElem _)
  refine ⟨⟨B, off, none⟩, ha, fun j p hj => ?_⟩
  rw [List.getElem?_map, Option.map_eq_some_iff] at hj
  obtain ⟨x, hx, rfl⟩ := hj
  obtain ⟨B', off', ha', h1, h2, h3⟩ := h j x hx
  rw [ha] at ha'
  injection ha' with ha'
  injection ha' with e1 e2
  subst e1 e2
  refine ⟨_, rfl, k158_mk w (toS x), fun i u hu => ?_⟩
  change w.cell? ((⟨B, off, none⟩ : Addr).add (j * 3 + i)) = some u
  rw [show (⟨B, off, none⟩ : Addr).add (j * 3 + i) = ⟨B, off + j * 3 + i, none⟩ by unfold Addr.add; split <;> simp_all <;> omega]
  match i, hu with
  | 0, hu => cases hu; exact h1
  | 1, hu => cases hu; exact h2
  | 2, hu => cases hu; exact h3
  | i + 3, hu => simp at hu

theorem same_l (l : List S158) (hl : (l.length : Int) ≤ 9223372036854775806) : ∀ (d i k : Nat), i + d = l.length → d < k → tripwireref00_SameFeeds.l0 k l l (i : Int) = some true := by
  intro d
  induction d with
  | zero =>
    intro i k hi hk
    obtain ⟨j, rfl⟩ : ∃ j, k = j + 1 := ⟨k - 1, by omega⟩
    simp only [tripwireref00_SameFeeds.l0]
    rw [if_neg (by omega)]
  | succ d ih =>
    intro i k hi hk
    obtain ⟨j, rfl⟩ : ∃ j, k = j + 1 := ⟨k - 1, by omega⟩
    simp only [tripwireref00_SameFeeds.l0]
    rw [if_pos (by omega), if_pos (by omega), if_pos (by omega), if_neg (by simp), show wrap64 ((i : Int) + 1) = ((i + 1 : Nat) : Int) by unfold wrap64; omega]
    exact ih (i + 1) j (by omega) (by omega)
theorem same_feeds (l : List S158) (hl : (l.length : Int) ≤ 9223372036854775806) (k : Nat) (hk : l.length < k) : tripwireref00_SameFeeds.f k l l = some true := by
  unfold tripwireref00_SameFeeds.f
  rw [if_pos rfl]
  exact same_l l hl l.length 0 k (by omega) hk

theorem feeds_blk {w : World} {g : Nat} {xs : List (Int × Int × Int)} {tl : List Value} {t : TypeId} (h : w.heap[g]? = some (.cells (feedV xs ++ tl).toArray t (0, 0))) : FeedsAt w (some ⟨g, 0, none⟩) xs ∧ ∀ j v, tl[j]? = some v → w.cell? ⟨g, xs.length * 3 + j, none⟩ = some v := by
  have hc : ∀ j v, (feedV xs ++ tl)[j]? = some v → w.cell? ⟨g, j, none⟩ = some v := fun j v hv => by
    rw [cell_of_row w g j _ _ _ h]; simpa using hv
  refine ⟨fun i x hx => ?_, fun j v hv => hc _ v ?_⟩
  · obtain ⟨h1, h2, h3⟩ := feedV_at hx
    have ap : ∀ {k : Nat} {v : Value}, (feedV xs)[k]? = some v → (feedV xs ++ tl)[k]? = some v := fun {k v} hv => by
      rw [List.getElem?_append_left (List.getElem?_eq_some_iff.1 hv).1]; exact hv
    exact ⟨g, 0, rfl, by rw [Nat.zero_add]; exact hc _ _ (ap h1), by rw [Nat.zero_add]; exact hc _ _ (ap h2), by rw [Nat.zero_add]; exact hc _ _ (ap h3)⟩
  · rw [List.getElem?_append_right (by rw [feedV_length]; omega), feedV_length, Nat.add_sub_cancel_left]; exact hv

set_option maxHeartbeats 4000000 in
set_option maxRecDepth 100000 in
theorem s_whole (w : World) (g n : Nat) (xs : List (Int × Int × Int)) (hblk : w.heap[g]? = some (.cells (feedV xs ++ marksV).toArray 158 (0, 0))) (hn : xs.length = n) (a : Option Addr) (cap : Nat) (hcap : n ≤ cap) (ha : FeedsAt w a xs) (hN : n ≤ 67108863) :
    Calls Try.prog 55 #[.slice (some ⟨g, 0, none⟩) n (n + 2), .slice a n cap] w fun e w' => e = .returned (.bool true) ∧ Only (fun _ => False) w w' := by
  obtain ⟨hf, hm⟩ := feeds_blk hblk
  rw [hn] at hm
  have hl : (xs.map toS).length = n := by rw [List.length_map]; exact hn
  have hsame := tripwireref00_SameFeeds.calls (n + 1) (some ⟨g, 0, none⟩) (n + 2) (xs.map toS) a cap (xs.map toS) true w (by rw [hl]; exact C_feeds hf hn (by omega)) (by rw [hl]; omega) (by rw [hl]; exact C_feeds ha hn (by omega)) (by rw [hl]; exact hcap) (same_feeds _ (by rw [hl]; omega) _ (by rw [hl]; omega))
  rw [hl] at hsame
  have HS := Lib.hid hsame
  have m0 := hm 0 _ rfl
  have m1 := hm 1 _ rfl
  have m2 := hm 2 _ rfl
  have m3 := hm 3 _ rfl
  have m4 := hm 4 _ rfl
  have m5 := hm 5 _ rfl
  have e3 : n * 3 + 3 = (n + 1) * 3 := by omega
  rw [Nat.add_zero] at m0
  rw [e3] at m3
  rw [show n * 3 + 4 = (n + 1) * 3 + 1 by omega] at m4
  rw [show n * 3 + 5 = (n + 1) * 3 + 2 by omega] at m5
  have w1 : IntKind.i64.wrap ((n : Int) + 2) = (n : Int) + 2 := by rw [IntKind.wrap_i64]; omega
  have w2 : IntKind.i64.wrap ((n : Int) + 1) = (n : Int) + 1 := by rw [IntKind.wrap_i64]; omega
  clear hsame hm hf hblk ha hl e3 hn
  go_enter Try.func55, Try.ntmps55
  go_wp2_with fail
  refine HS.out.mono ?_
  rintro e w7 ⟨rfl, ⟨nn, rfl⟩⟩
  go_wp2_with fail
  go_returns
  exact ⟨by rfl, by repeat' (first | (with_reducible exact Only.refl _ _) | (with_reducible assumption) | (refine Only.of_none ?_; with_reducible assumption) | (with_reducible refine Only.drewN ?_ _) | (with_reducible refine Only.drew ?_) | (with_reducible refine Only.alloc ?_ _) | (with_reducible refine Only.setCell ?_ ?_ _) | (with_reducible refine Only.then0 ?_ (by with_reducible assumption)) | (with_reducible refine Only.thenN ?_ (by with_reducible assumption) ?_) | (with_reducible refine Only.trans ?_ (by with_reducible assumption)) | (refine .inl ?_; first | rfl | (simp; done) | (simp [Ar.blk]; done)) | (refine .inr ?_; first | omega | (simp; done) | (simp; omega) | exact Only.size (by with_reducible assumption) | (refine Nat.le_trans (Only.size (by with_reducible assumption)) ?_; simp; done)))⟩
end Go.Proofs.Ytiiflgihjnlmcaa
