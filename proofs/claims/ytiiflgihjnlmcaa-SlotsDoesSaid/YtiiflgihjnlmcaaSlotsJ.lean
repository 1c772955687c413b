/- Slots: Clear, walked, over rows of numbers. Conditions: an arena as New lays it. -/
import Derived.Test.YtiiflgihjnlmcaaSlotsI
namespace Go.Proofs.Ytiiflgihjnlmcaa
set_option linter.unusedVariables false
set_option linter.unusedSimpArgs false
open Go.RowKit

def HClear (w : World) (b gl gr gf nr room : Nat) (R : Nat → List Nat) (V : Nat → Int) (r : Nat) (e : Ending) (w' : World) : Prop :=
  ∃ V', e = .returned (.int .i64 (R r).length) ∧ Lay w' b gl gr gf nr room (upd R r []) V' ∧ (∀ k, k ∉ R r → V' k = V k) ∧ Only (Blk4 b gl gr gf) w w'

set_option maxHeartbeats 4000000 in
set_option maxRecDepth 100000 in
theorem h_clear (w : World) (b gl gr gf nr room : Nat) (R : Nat → List Nat) (V : Nat → Int) (h : Lay w b gl gr gf nr room R V) (r : Nat) (hr : r < nr) :
    Calls Try.prog 64 #[.pointer (some ⟨b, 0, none⟩), .int .i64 r] w (HClear w b gl gr gf nr room R V r) := by
  have HL := Lib.hid (h_len w b gl gr gf nr room R V h r hr)
  obtain ⟨n, hn⟩ : ∃ n, n = (R r).length := ⟨_, rfl⟩
  rw [← hn] at HL
  have HA := Lib.hid h
  have hsm : n ≤ 65536 := by
    obtain ⟨A, hA⟩ := h
    have h1 := hA.rep.len (r := r) (by rw [hA.enr]; exact hr)
    have h2 := hA.at_.small
    omega
  have HN := Lib.hid hn
  clear h hn
  go_enter Try.func64, Try.ntmps64
  go_wp2_with fail
  refine HL.out.mono ?_
  rintro e w1 ⟨rfl, rfl⟩
  clear HL
  go_wp2
  go_loopw [10] (fun s wr => ∃ (k : Nat) (R' : Nat → List Nat) (V' : Nat → Int), k ≤ n ∧ s = .int .i64 k ∧ Lay wr b gl gr gf nr room R' V' ∧ R' r = (R r).drop k ∧ (∀ j, j ≠ r → R' j = R j) ∧ (∀ j, j ∉ R r → V' j = V j) ∧ Only (Blk4 b gl gr gf) w wr)
    (fun s _ => n - (intOf s).toNat)
  case atStart => exact ⟨0, R, V, by omega, rfl, HA.out, rfl, fun _ _ => rfl, fun _ _ => rfl, Only.refl _ _⟩
  case round =>
    clear HA
    obtain ⟨k, R', V', hk, rfl, hL, h1, h2, h3, ho⟩ := hrel
    by_cases hlt : k < n
    · have hn := HN.out
      obtain ⟨x, hx⟩ : ∃ x, (R r).drop k = x :: (R r).drop (k + 1) := ⟨_, List.drop_eq_getElem_cons (by omega)⟩
      have HF := Lib.hid (h_first wr b gl gr gf nr room R' V' hL r hr)
      rw [h1, hx] at HF
      have HT := Lib.hid (h_take wr b gl gr gf nr room R' V' hL r x hr [] _ (by rw [h1, hx]; rfl))
      have hxm : x ∈ R r := List.mem_of_mem_drop (i := k) (by rw [hx]; simp)
      clear hL hn
      go_wp2_with fail
      refine HF.out.mono ?_
      rintro e w2 ⟨rfl, rfl⟩
      go_wp2_with fail
      refine HT.out.mono ?_
      rintro e w3 ⟨rfl, hL, o3⟩
      have HL3 := Lib.hid hL
      clear HF HT hL
      go_wp2
      go_roundw
      case rel =>
        refine ⟨k + 1, _, _, by omega, by go_num, HL3.out, by rw [upd_same]; rfl, fun j hj => by rw [upd_other hj]; exact h2 j hj, fun j hj => ?_, ho.trans o3⟩
        rw [upd_other (fun e : j = x => hj (e ▸ hxm))]
        exact h3 j hj
      case measure => simp [intOf]; omega
    · have hkn : k = n := by omega
      subst hkn
      have HL := Lib.hid hL
      clear hL
      go_wp2
      go_returns
      refine ⟨V', by rw [HN.out]; rfl, ?_, h3, ho⟩
      have e : R' = upd R r [] := by
        funext j
        by_cases e : j = r
        · subst e; rw [upd_same, h1, List.drop_eq_nil_of_le (by rw [HN.out]; exact Nat.le_refl _)]
        · rw [upd_other e]; exact h2 j e
      rw [← e]
      exact HL.out

theorem h_clear_no (w : World) (b gl gr gf nr room : Nat) (R : Nat → List Nat) (V : Nat → Int) (h : Lay w b gl gr gf nr room R V) (r : Int) (hr : ¬ (0 ≤ r ∧ r < nr)) :
    Calls Try.prog 64 #[.pointer (some ⟨b, 0, none⟩), .int .i64 r] w fun e w' => e = .returned (.int .i64 0) ∧ w = w' := by
  have HL := Lib.hid (h_len_no w b gl gr gf nr room R V h r hr)
  clear h hr
  go_enter Try.func64, Try.ntmps64
  go_wp2_with fail
  refine HL.out.mono ?_
  rintro e w1 ⟨rfl, rfl⟩
  clear HL
  go_wp2
  go_loopw [10] (fun s wr => s = .int .i64 0 ∧ w = wr) (fun s _ => 0)
  case atStart => exact ⟨rfl, rfl⟩
  case round =>
    obtain ⟨rfl, rfl⟩ := hrel
    go_wp2
    go_ret
    exact ⟨rfl, rfl⟩
end Go.Proofs.Ytiiflgihjnlmcaa
