/- Levels: Add, Drop, Find, At, Best, Len, Better, walked. Conditions: a side as its New lays it. -/
import Derived.Test.YtkglplngnjgnhaaLv6
namespace Go.Proofs.Ytkglplngnjgnhaa
set_option linter.unusedVariables false
set_option linter.unusedSimpArgs false
open Go.RowKit

/-! ### The plain side -/
/-- A price is put at its place. -/
def put (sg p : Int) (r : Nat) (L : List (Int × Nat)) : List (Int × Nat) := L.take (pos sg p L) ++ [(p, r)] ++ L.drop (pos sg p L)
/-- The price at a place is taken out. -/
def cutAt (k : Nat) (L : List (Int × Nat)) : List (Int × Nat) := L.take k ++ L.drop (k + 1)

theorem put_mem {sg p : Int} {r : Nat} {L : List (Int × Nat)} {x : Int × Nat} : x ∈ put sg p r L ↔ x = (p, r) ∨ x ∈ L := by
  unfold put
  rw [List.mem_append, List.mem_append, List.mem_singleton]
  constructor
  · rintro ((h | h) | h)
    · exact .inr (List.mem_of_mem_take h)
    · exact .inl h
    · exact .inr (List.mem_of_mem_drop h)
  · rintro (h | h)
    · exact .inl (.inr h)
    · rw [← List.take_append_drop (pos sg p L) L] at h
      rcases List.mem_append.1 h with h | h
      · exact .inl (.inl h)
      · exact .inr h
theorem put_len {sg p : Int} {r : Nat} {L : List (Int × Nat)} : (put sg p r L).length = L.length + 1 := by
  have := pos_le sg p L
  unfold put
  simp
  omega
theorem take_pos {sg p : Int} {L : List (Int × Nat)} (hs : Srt sg L) {x : Int × Nat} (h : x ∈ L.take (pos sg p L)) : sg * x.1 < sg * p := by
  obtain ⟨j, hj⟩ := List.mem_iff_getElem?.1 h
  rw [List.getElem?_take] at hj
  split at hj
  · rename_i hlt; exact (pos_lt hs hj).1 hlt
  · cases hj
theorem drop_pos {sg p : Int} {L : List (Int × Nat)} (hs : Srt sg L) {x : Int × Nat} (h : x ∈ L.drop (pos sg p L)) : sg * p ≤ sg * x.1 := by
  obtain ⟨j, hj⟩ := List.mem_iff_getElem?.1 h
  rw [List.getElem?_drop] at hj
  have h1 := pos_lt (p := p) hs hj
  by_cases h2 : sg * x.1 < sg * p
  · have := h1.2 h2; omega
  · omega
theorem srt_put {sg p : Int} {r : Nat} {L : List (Int × Nat)} (hsg : sg = 1 ∨ sg = -1) (hs : Srt sg L) (hp : has p L = false) : Srt sg (put sg p r L) := by
  unfold put Srt
  rw [List.append_assoc, List.pairwise_append]
  have hne : ∀ x ∈ L, x.1 ≠ p := fun x hx e => by
    rw [← Bool.not_eq_true, has_iff] at hp
    exact hp ⟨x, hx, e⟩
  refine ⟨hs.sublist (List.take_sublist _ _), ?_, fun x hx y hy => ?_⟩
  · rw [List.singleton_append, List.pairwise_cons]
    refine ⟨fun y hy => ?_, hs.sublist (List.drop_sublist _ _)⟩
    have h1 := drop_pos hs hy
    have h2 := hne y (List.mem_of_mem_drop hy)
    show sg * p < sg * y.1
    rcases Int.lt_or_eq_of_le h1 with h3 | h3
    · exact h3
    · exact absurd (sg_inj hsg h3).symm h2
  · have h1 := take_pos hs hx
    simp only [List.singleton_append, List.mem_cons] at hy
    rcases hy with rfl | hy
    · exact h1
    · have := drop_pos hs hy
      omega
theorem nodup_put {sg p : Int} {r : Nat} {L : List (Int × Nat)} (hn : (L.map Prod.snd).Nodup) (hr : r ∉ L.map Prod.snd) : ((put sg p r L).map Prod.snd).Nodup := by
  have hperm : (put sg p r L).Perm ((p, r) :: L) := by
    unfold put
    have h1 : (L.take (pos sg p L) ++ [(p, r)] ++ L.drop (pos sg p L)).Perm ([(p, r)] ++ L.take (pos sg p L) ++ L.drop (pos sg p L)) := List.Perm.append_right _ List.perm_append_comm
    refine h1.trans ?_
    rw [List.append_assoc, List.take_append_drop]
    exact List.Perm.refl _
  rw [(hperm.map Prod.snd).nodup_iff]
  exact List.nodup_cons.2 ⟨hr, hn⟩
theorem cut_sub (k : Nat) (L : List (Int × Nat)) : (cutAt k L).Sublist L := by
  unfold cutAt
  have h1 : (L.drop (k + 1)).Sublist (L.drop k) := by
    rw [show L.drop (k + 1) = (L.drop k).drop 1 by rw [List.drop_drop]]
    exact List.drop_sublist _ _
  have h2 := List.Sublist.append (List.Sublist.refl (L.take k)) h1
  rwa [List.take_append_drop] at h2
theorem nodup_len : ∀ (l m : List Nat), l.Nodup → (∀ x ∈ l, x ∈ m) → l.length ≤ m.length := by
  intro l
  induction l with
  | nil => intro m _ _; simp
  | cons a t ih =>
    intro m hn hs
    have h2 := List.nodup_cons.1 hn
    have ha := hs a (by simp)
    have := ih (m.erase a) h2.2 (fun x hx => (List.mem_erase_of_ne (fun e : x = a => h2.1 (e ▸ hx))).2 (hs x (by simp [hx])))
    rw [List.length_erase_of_mem ha] at this
    have hm : 0 < m.length := List.length_pos_of_mem ha
    simp only [List.length_cons]
    omega
/-- There is a row for one more, as long as there is room. -/
theorem free_row {most : Nat} {L : List (Int × Nat)} (h : L.length < most) : ∃ r, r < most ∧ r ∉ L.map Prod.snd ∧ ∀ k, k < r → k ∈ L.map Prod.snd := by
  have hex : ∃ r, r < most ∧ r ∉ L.map Prod.snd := by
    rcases Classical.em (∃ r, r < most ∧ r ∉ L.map Prod.snd) with h1 | h1
    · exact h1
    · have := nodup_len (List.range most) (L.map Prod.snd) List.nodup_range (fun x hx => Classical.byContradiction fun hc => h1 ⟨x, by simpa using hx, hc⟩)
      simp at this
      omega
  obtain ⟨r, hr, hn⟩ := hex
  induction r using Nat.strongRecOn with
  | _ r ih =>
    by_cases h1 : ∃ k, k < r ∧ k ∉ L.map Prod.snd
    · obtain ⟨k, hk, hf⟩ := h1
      exact ih k hk (by omega) hf
    · exact ⟨r, hr, hn, fun k hk => Classical.byContradiction fun hc => h1 ⟨k, hk, hc⟩⟩
theorem full_rows {most : Nat} {L : List (Int × Nat)} (hn : (L.map Prod.snd).Nodup) (hl : ∀ x ∈ L, x.2 < most) (h : most ≤ L.length) : ∀ k, k < most → k ∈ L.map Prod.snd := fun k hk =>
  Classical.byContradiction fun hc => by
    have := nodup_len (k :: L.map Prod.snd) (List.range most) (List.nodup_cons.2 ⟨hc, hn⟩) (fun x hx => by
      rcases List.mem_cons.1 hx with rfl | hx
      · simpa using hk
      · obtain ⟨y, hy, rfl⟩ := List.mem_map.1 hx
        simpa using hl y hy)
    simp at this
    omega

/-! ### The walks -/
section
variable {w : World} {b gu most : Nat} {sg : Int} {hv : Value} {L : List (Int × Nat)}

set_option maxHeartbeats 1000000 in
theorem s_index (h : SideAt w b gu most sg hv L) (r : Nat) (hr : r < most) (hn : r ∉ L.map Prod.snd) (hmin : ∀ k, k < r → k ∈ L.map Prod.snd) :
    Calls Try.prog 42 #[.slice (some ⟨gu, 0, none⟩) most most, .bool false] w fun e w' => e = .returned (.int .i64 (r : Nat)) ∧ w = w' := by
  have hsm := h.small
  have hgl := h.gul
  have hu := h.us
  have HU := Lib.hid hu
  have HN := Lib.hid hn
  have HM := Lib.hid hmin
  clear h hu hn hmin
  go_enter Try.func42, Try.ntmps42
  go_wp2_with fail
  go_loop [8] (fun s => ∃ j : Nat, j ≤ r ∧ s = .int .i64 j) (fun s => r + 1 - (intOf s).toNat)
  case atStart => exact ⟨0, by omega, rfl⟩
  case round =>
    obtain ⟨j, hj, rfl⟩ := hrel
    have tj : decide (j < most) = true := by simp; omega
    have ij : (0 : Int) ≤ (j : Int) ∧ (j : Int) < (most : Int) := by omega
    have u := (HU.out j (by omega)).cell
    by_cases hlt : j < r
    · have e : rowB L j = true := by unfold rowB; exact decide_eq_true (HM.out j hlt)
      rw [e] at u
      have w2 : IntKind.i64.wrap ((j : Int) + 1) = (j : Int) + 1 := by rw [IntKind.wrap_i64]; omega
      clear e
      go_wp2_with fail
      go_round
      case rel => exact ⟨j + 1, by omega, by go_num⟩
      case measure => simp [intOf]; omega
    · obtain rfl : j = r := by omega
      have e : rowB L j = false := by unfold rowB; exact decide_eq_false HN.out
      rw [e] at u
      clear e
      go_wp2_with fail
      go_returns
      exact ⟨rfl, rfl⟩

set_option maxHeartbeats 1000000 in
theorem s_index_no (h : SideAt w b gu most sg hv L) (hall : ∀ k, k < most → k ∈ L.map Prod.snd) :
    Calls Try.prog 42 #[.slice (some ⟨gu, 0, none⟩) most most, .bool false] w fun e w' => e = .returned (.int .i64 (-1)) ∧ w = w' := by
  have hsm := h.small
  have hgl := h.gul
  have hu := h.us
  have HU := Lib.hid hu
  have HM := Lib.hid hall
  clear h hu hall
  go_enter Try.func42, Try.ntmps42
  go_wp2_with fail
  go_loop [8] (fun s => ∃ j : Nat, j ≤ most ∧ s = .int .i64 j) (fun s => most - (intOf s).toNat)
  case atStart => exact ⟨0, by omega, rfl⟩
  case round =>
    obtain ⟨j, hj, rfl⟩ := hrel
    by_cases hlt : j < most
    · have tj : decide (j < most) = true := by simpa using hlt
      have ij : (0 : Int) ≤ (j : Int) ∧ (j : Int) < (most : Int) := by omega
      have u := (HU.out j (by omega)).cell
      have e : rowB L j = true := by unfold rowB; exact decide_eq_true (HM.out j hlt)
      rw [e] at u
      have w2 : IntKind.i64.wrap ((j : Int) + 1) = (j : Int) + 1 := by rw [IntKind.wrap_i64]; omega
      clear e
      go_wp2_with fail
      go_round
      case rel => exact ⟨j + 1, by omega, by go_num⟩
      case measure => simp [intOf]; omega
    · have tj : decide (j < most) = false := by simpa using hlt
      go_wp2_with fail
      go_returns
      exact ⟨rfl, rfl⟩

theorem s_add_bad (p : Int) (hp : p < 1 ∨ 1000000000 < p) :
    Calls Try.prog 11 #[.pointer (some ⟨b, 0, none⟩), .int .i64 p] w fun e w' => e = .returned (.tuple #[.int .i64 0, .int .i64 1]) ∧ w = w' := by
  by_cases h1 : p < 1
  · have t1 : decide (p < 1) = true := by simpa using h1
    clear hp
    go_enter Try.func11, Try.ntmps11
    go_wp2_with fail
    go_returns
    exact ⟨rfl, rfl⟩
  · have t1 : decide (p < 1) = false := by simpa using h1
    have t2 : decide (1000000000 < p) = true := by simp; omega
    clear hp
    go_enter Try.func11, Try.ntmps11
    go_wp2_with fail
    go_returns
    exact ⟨rfl, rfl⟩

/-- slices.Index, whatever it finds. -/
theorem s_index_any (h : SideAt w b gu most sg hv L) : ∃ x : Int, Calls Try.prog 42 #[.slice (some ⟨gu, 0, none⟩) most most, .bool false] w fun e w' => e = .returned (.int .i64 x) ∧ w = w' := by
  rcases Nat.lt_or_ge L.length most with h1 | h1
  · obtain ⟨r, a1, a2, a3⟩ := free_row h1
    exact ⟨_, s_index h r a1 a2 a3⟩
  · exact ⟨_, s_index_no h (full_rows h.nd h.lt h1)⟩

theorem s_add_twice (h : SideAt w b gu most sg hv L) (p : Int) (h1 : 1 ≤ p) (h2 : p ≤ 1000000000) (hp : has p L = true) :
    Calls Try.prog 11 #[.pointer (some ⟨b, 0, none⟩), .int .i64 p] w fun e w' => e = .returned (.tuple #[.int .i64 0, .int .i64 52]) ∧ Only (fun _ => False) w w' := by
  have HP := Lib.hid (s_place h p)
  rw [hp] at HP
  generalize pos sg p L = k at *
  have HI := fun W (o : Only (fun _ => False) w W) => Lib.hid (s_index_any (SideU.only h o (fun _ _ => id)))
  have H2 := fun W (o : Only (fun _ => False) w W) => Lib.hid (SideU.only h o (fun _ _ => id)).c2.cell
  have t1 : decide (p < 1) = false := by simp; omega
  have t2 : decide (1000000000 < p) = false := by simp; omega
  clear h hp
  go_enter Try.func11, Try.ntmps11
  go_wp2_with fail
  refine HP.out.mono ?_
  rintro e w1 ⟨rfl, o1⟩
  have c2 := (H2 w1 o1).out
  obtain ⟨x, hx⟩ := (HI w1 o1).out
  have HX := Lib.hid hx
  clear hx HI H2
  go_wp2_with fail
  refine HX.out.mono ?_
  rintro e w2 ⟨rfl, rfl⟩
  go_wp2_with fail
  go_returns
  exact ⟨rfl, by repeat' (first | (with_reducible exact Only.refl _ _) | (with_reducible assumption) | (refine Only.of_none ?_; with_reducible assumption) | (with_reducible refine Only.drewN ?_ _) | (with_reducible refine Only.drew ?_) | (with_reducible refine Only.alloc ?_ _) | (with_reducible refine Only.setCell ?_ ?_ _) | (with_reducible refine Only.then0 ?_ (by with_reducible assumption)) | (with_reducible refine Only.thenN ?_ (by with_reducible assumption) ?_) | (with_reducible refine Only.trans ?_ (by with_reducible assumption)) | (refine .inl ?_; first | rfl | (simp; done) | (simp [Ar.blk]; done)) | (refine .inr ?_; first | omega | (simp; done) | (simp; omega) | exact Only.size (by with_reducible assumption) | (refine Nat.le_trans (Only.size (by with_reducible assumption)) ?_; simp; done)))⟩

theorem s_add_full (h : SideAt w b gu most sg hv L) (p : Int) (h1 : 1 ≤ p) (h2 : p ≤ 1000000000) (hp : has p L = false) (hf : most ≤ L.length) :
    Calls Try.prog 11 #[.pointer (some ⟨b, 0, none⟩), .int .i64 p] w fun e w' => e = .returned (.tuple #[.int .i64 0, .int .i64 50]) ∧ Only (fun _ => False) w w' := by
  have HP := Lib.hid (s_place h p)
  rw [hp] at HP
  generalize pos sg p L = k at *
  have HI := fun W (o : Only (fun _ => False) w W) => Lib.hid (s_index_no (SideU.only h o (fun _ _ => id)) (full_rows h.nd h.lt hf))
  have H2 := fun W (o : Only (fun _ => False) w W) => Lib.hid (SideU.only h o (fun _ _ => id)).c2.cell
  have t1 : decide (p < 1) = false := by simp; omega
  have t2 : decide (1000000000 < p) = false := by simp; omega
  clear h hp hf
  go_enter Try.func11, Try.ntmps11
  go_wp2_with fail
  refine HP.out.mono ?_
  rintro e w1 ⟨rfl, o1⟩
  have c2 := (H2 w1 o1).out
  go_wp2_with fail
  refine (HI w1 o1).out.mono ?_
  rintro e w2 ⟨rfl, rfl⟩
  go_wp2_with fail
  go_returns
  exact ⟨rfl, by repeat' (first | (with_reducible exact Only.refl _ _) | (with_reducible assumption) | (refine Only.of_none ?_; with_reducible assumption) | (with_reducible refine Only.drewN ?_ _) | (with_reducible refine Only.drew ?_) | (with_reducible refine Only.alloc ?_ _) | (with_reducible refine Only.setCell ?_ ?_ _) | (with_reducible refine Only.then0 ?_ (by with_reducible assumption)) | (with_reducible refine Only.thenN ?_ (by with_reducible assumption) ?_) | (with_reducible refine Only.trans ?_ (by with_reducible assumption)) | (refine .inl ?_; first | rfl | (simp; done) | (simp [Ar.blk]; done)) | (refine .inr ?_; first | omega | (simp; done) | (simp; omega) | exact Only.size (by with_reducible assumption) | (refine Nat.le_trans (Only.size (by with_reducible assumption)) ?_; simp; done)))⟩
end
end Go.Proofs.Ytkglplngnjgnhaa
