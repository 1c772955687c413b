/- SlotsDoes: an arena and the document's beside it: each call is answered alike by both. Conditions: both as their News lay them, and since called alike. -/
import Derived.Test.YtiiflgihjnlmcaaGoes
import Derived.Test.YtiiflgihjnlmcaaLinks1
namespace Go.Proofs.Ytiiflgihjnlmcaa
set_option linter.unusedVariables false
set_option linter.unusedSimpArgs false
open Go.RowKit

/-- Both lie there, and hold the same. -/
def Pair (base ab gl gr gf rb rg ru nr room : Nat) (w : World) : Prop := ∃ hv R V, Lay w ab gl gr gf nr room R V ∧ RaAt base w rb rg ru nr room hv R V
/-- Their blocks are apart. -/
def Apart (base ab gl gr gf rb rg ru : Nat) : Prop := ∀ i, Blk4 ab gl gr gf i → ¬ RaB base rb rg ru i
/-- The blocks of both. -/
def BothB (base ab gl gr gf rb rg ru : Nat) (i : Nat) : Prop := Blk4 ab gl gr gf i ∨ RaB base rb rg ru i

/-- A call of the one, and then a call of the other, answer alike. -/
def Two (f1 f2 : Nat) (a1 a2 : Array Value) (v : Value) (S T : Nat → Prop) (P : World → Prop) (w : World) : Prop :=
  Calls Try.prog f1 a1 w fun e w1 => e = .returned v ∧ Only S w w1 ∧ Calls Try.prog f2 a2 w1 fun e w2 => e = .returned v ∧ P w2 ∧ Only T w1 w2

section
variable {base ab gl gr gf rb rg ru nr room : Nat}
theorem Pair.keep {w w' : World} (h : Pair base ab gl gr gf rb rg ru nr room w) (o : Only (fun _ => False) w w') : Pair base ab gl gr gf rb rg ru nr room w' := by
  obtain ⟨hv, R, V, h1, h2⟩ := h
  exact ⟨hv, R, V, h1.keep o (fun _ _ => id), h2.only o (fun _ _ => id)⟩

theorem two_quiet {f1 f2 : Nat} {a1 a2 : Array Value} {v : Value} {w : World} (h : Pair base ab gl gr gf rb rg ru nr room w) (h1 : Calls Try.prog f1 a1 w fun e w' => e = .returned v ∧ w = w') (h2 : Calls Try.prog f2 a2 w fun e w' => e = .returned v ∧ w = w') :
    Two f1 f2 a1 a2 v (Blk4 ab gl gr gf) (RaB base rb rg ru) (Pair base ab gl gr gf rb rg ru nr room) w :=
  h1.mono fun e w1 ⟨he, hw⟩ => ⟨he, hw ▸ Only.refl _ _, hw ▸ h2.mono fun e w2 ⟨he2, hw2⟩ => ⟨he2, hw2 ▸ h, hw2 ▸ Only.refl _ _⟩⟩

variable (hs : Apart base ab gl gr gf rb rg ru)
include hs
theorem two_push (w : World) (h : Pair base ab gl gr gf rb rg ru nr room w) (r v : Int) :
    ∃ x y : Int, Two 40 121 #[.pointer (some ⟨ab, 0, none⟩), .int .i64 r, .int .i64 v] #[.pointer (some ⟨rb, 0, none⟩), .int .i64 r, .int .i64 v] (.tuple #[.int .i64 x, .int .i64 y]) (Blk4 ab gl gr gf) (RaB base rb rg ru) (Pair base ab gl gr gf rb rg ru nr room) w := by
  obtain ⟨hv, R, V, h1, h2⟩ := h
  by_cases hr : 0 ≤ r ∧ r < nr
  · obtain ⟨k, rfl⟩ : ∃ k : Nat, r = k := ⟨r.toNat, by omega⟩
    by_cases hf : ∃ m, FreeN nr room R m
    · obtain ⟨m, hm⟩ := hf
      obtain ⟨n, hn, hmin⟩ := least_free hm
      refine ⟨n, 0, (h_push w ab gl gr gf nr room R V h1 k n v (by omega) hn hmin).mono fun e w1 ⟨e1, e2, e3⟩ => ⟨e1, e3, ?_⟩⟩
      refine (ra_push (h2.only e3 (fun i hi hb => hs i hb hi)) h1.ok k n v (by omega) hn hmin).mono fun e w2 hq => ?_
      obtain ⟨hv', q1, q2, q3⟩ := hq
      exact ⟨q1, ⟨hv', _, _, e2.keep q3 hs, q2⟩, q3⟩
    · have hf' : ∀ n, ¬ FreeN nr room R n := fun n hn => hf ⟨n, hn⟩
      refine ⟨0, 40, (h_push_full w ab gl gr gf nr room R V h1 k v hr hf').mono fun e w1 ⟨e1, e2⟩ => ⟨e1, Only.of_none e2, ?_⟩⟩
      refine (ra_push_full (h2.only e2 (fun _ _ => id)) k v (by omega) hf').mono fun e w2 ⟨q1, q2⟩ => ⟨q1, ?_, q2 ▸ Only.refl _ _⟩
      exact q2 ▸ ⟨hv, R, V, h1.keep e2 (fun _ _ => id), h2.only e2 (fun _ _ => id)⟩
  · refine ⟨0, 1, (h_push_bad w ab gl gr gf nr room R V h1 r v hr).mono fun e w1 ⟨e1, e2⟩ => ⟨e1, Only.of_none e2, ?_⟩⟩
    refine (ra_push_bad (h2.only e2 (fun _ _ => id)) r v hr).mono fun e w2 ⟨q1, q2⟩ => ⟨q1, ?_, q2 ▸ Only.refl _ _⟩
    exact q2 ▸ ⟨hv, R, V, h1.keep e2 (fun _ _ => id), h2.only e2 (fun _ _ => id)⟩

theorem two_take (w : World) (h : Pair base ab gl gr gf rb rg ru nr room w) (n : Int) :
    ∃ (x : Int) (y : Bool), Two 41 125 #[.pointer (some ⟨ab, 0, none⟩), .int .i64 n] #[.pointer (some ⟨rb, 0, none⟩), .int .i64 n] (.tuple #[.int .i64 x, .bool y]) (Blk4 ab gl gr gf) (RaB base rb rg ru) (Pair base ab gl gr gf rb rg ru nr room) w := by
  obtain ⟨hv, R, V, h1, h2⟩ := h
  by_cases hn : ∃ r, r < nr ∧ ∃ m ∈ R r, (m : Int) = n
  · obtain ⟨r, hr, m, hm, rfl⟩ := hn
    obtain ⟨l1, l2, hl⟩ := List.append_of_mem hm
    refine ⟨V m, true, (h_take w ab gl gr gf nr room R V h1 r m hr l1 l2 hl).mono fun e w1 ⟨e1, e2, e3⟩ => ⟨e1, e3, ?_⟩⟩
    refine (ra_take (h2.only e3 (fun i hi hb => hs i hb hi)) h1.ok r m hr l1 l2 hl).mono fun e w2 hq => ?_
    obtain ⟨hv', q1, q2, q3⟩ := hq
    exact ⟨q1, ⟨hv', _, _, e2.keep q3 hs, q2⟩, q3⟩
  · have hn' : ∀ r, r < nr → ∀ m ∈ R r, (m : Int) ≠ n := fun r hr m hm e => hn ⟨r, hr, m, hm, e⟩
    refine ⟨0, false, (h_take_no w ab gl gr gf nr room R V h1 n hn').mono fun e w1 ⟨e1, e2⟩ => ⟨e1, Only.of_none e2, ?_⟩⟩
    refine (ra_take_no (h2.only e2 (fun _ _ => id)) n hn').mono fun e w2 ⟨q1, q2⟩ => ⟨q1, ?_, q2 ▸ Only.refl _ _⟩
    exact q2 ▸ ⟨hv, R, V, h1.keep e2 (fun _ _ => id), h2.only e2 (fun _ _ => id)⟩

theorem two_clear (w : World) (h : Pair base ab gl gr gf rb rg ru nr room w) (r : Int) :
    ∃ x : Int, Two 64 132 #[.pointer (some ⟨ab, 0, none⟩), .int .i64 r] #[.pointer (some ⟨rb, 0, none⟩), .int .i64 r] (.int .i64 x) (Blk4 ab gl gr gf) (RaB base rb rg ru) (Pair base ab gl gr gf rb rg ru nr room) w := by
  have h' := h
  obtain ⟨hv, R, V, h1, h2⟩ := h
  by_cases hr : 0 ≤ r ∧ r < nr
  · obtain ⟨k, rfl⟩ : ∃ k : Nat, r = k := ⟨r.toNat, by omega⟩
    refine ⟨(R k).length, (h_clear w ab gl gr gf nr room R V h1 k (by omega)).mono fun e w1 hc => ?_⟩
    obtain ⟨V', e1, e2, e4, e3⟩ := hc
    refine ⟨e1, e3, ?_⟩
    refine (ra_clear (h2.only e3 (fun i hi hb => hs i hb hi)) h1.ok k (by omega)).mono fun e w2 hq => ?_
    obtain ⟨hv', q1, q2, q3⟩ := hq
    refine ⟨q1, ⟨hv', _, V', e2.keep q3 hs, q2.congr fun s hs' n hn => ?_⟩, q3⟩
    by_cases e : s = k
    · subst e; rw [upd_same] at hn; simp at hn
    · rw [upd_other e] at hn
      exact e4 n fun hn' => e (h1.ok.other s k n hs' (by omega) hn hn')
  · exact ⟨0, two_quiet h' (h_clear_no w ab gl gr gf nr room R V h1 r hr) (ra_clear_no h2 r hr)⟩

theorem two_get (w : World) (h : Pair base ab gl gr gf rb rg ru nr room w) (n : Int) :
    ∃ (x : Int) (y : Bool), Two 67 122 #[.pointer (some ⟨ab, 0, none⟩), .int .i64 n] #[.pointer (some ⟨rb, 0, none⟩), .int .i64 n] (.tuple #[.int .i64 x, .bool y]) (Blk4 ab gl gr gf) (RaB base rb rg ru) (Pair base ab gl gr gf rb rg ru nr room) w := by
  have _hs := hs
  have h' := h
  obtain ⟨hv, R, V, h1, h2⟩ := h
  by_cases hn : ∃ r, r < nr ∧ ∃ m ∈ R r, (m : Int) = n
  · obtain ⟨r, hr, m, hm, rfl⟩ := hn
    obtain ⟨l1, l2, hl⟩ := List.append_of_mem hm
    exact ⟨V m, true, two_quiet h' (h_get w ab gl gr gf nr room R V h1 r m hr hm) (ra_get h2 h1.ok r m hr l1 l2 hl)⟩
  · have hn' : ∀ r, r < nr → ∀ m ∈ R r, (m : Int) ≠ n := fun r hr m hm e => hn ⟨r, hr, m, hm, e⟩
    exact ⟨0, false, two_quiet h' (h_get_no w ab gl gr gf nr room R V h1 n hn') (ra_get_no h2 n hn')⟩

theorem two_row (w : World) (h : Pair base ab gl gr gf rb rg ru nr room w) (n : Int) :
    ∃ x : Int, Two 68 126 #[.pointer (some ⟨ab, 0, none⟩), .int .i64 n] #[.pointer (some ⟨rb, 0, none⟩), .int .i64 n] (.int .i64 x) (Blk4 ab gl gr gf) (RaB base rb rg ru) (Pair base ab gl gr gf rb rg ru nr room) w := by
  have _hs := hs
  have h' := h
  obtain ⟨hv, R, V, h1, h2⟩ := h
  by_cases hn : ∃ r, r < nr ∧ ∃ m ∈ R r, (m : Int) = n
  · obtain ⟨r, hr, m, hm, rfl⟩ := hn
    obtain ⟨l1, l2, hl⟩ := List.append_of_mem hm
    exact ⟨r, two_quiet h' (h_row w ab gl gr gf nr room R V h1 r m hr hm) (ra_row h2 h1.ok r m hr l1 l2 hl)⟩
  · have hn' : ∀ r, r < nr → ∀ m ∈ R r, (m : Int) ≠ n := fun r hr m hm e => hn ⟨r, hr, m, hm, e⟩
    exact ⟨-1, two_quiet h' (h_row_no w ab gl gr gf nr room R V h1 n hn') (ra_row_no h2 n hn')⟩

theorem two_next (w : World) (h : Pair base ab gl gr gf rb rg ru nr room w) (n : Int) :
    ∃ x : Int, Two 43 128 #[.pointer (some ⟨ab, 0, none⟩), .int .i64 n] #[.pointer (some ⟨rb, 0, none⟩), .int .i64 n] (.int .i64 x) (Blk4 ab gl gr gf) (RaB base rb rg ru) (Pair base ab gl gr gf rb rg ru nr room) w := by
  have _hs := hs
  have h' := h
  obtain ⟨hv, R, V, h1, h2⟩ := h
  by_cases hn : ∃ r, r < nr ∧ ∃ m ∈ R r, (m : Int) = n
  · obtain ⟨r, hr, m, hm, rfl⟩ := hn
    obtain ⟨l1, l2, hl⟩ := List.append_of_mem hm
    exact ⟨hdI l2, two_quiet h' (h_next w ab gl gr gf nr room R V h1 r m hr l1 l2 hl) (ra_next h2 h1.ok r m hr l1 l2 hl)⟩
  · have hn' : ∀ r, r < nr → ∀ m ∈ R r, (m : Int) ≠ n := fun r hr m hm e => hn ⟨r, hr, m, hm, e⟩
    exact ⟨-1, two_quiet h' (h_next_no w ab gl gr gf nr room R V h1 n hn') (ra_next_no h2 n hn')⟩

theorem two_first (w : World) (h : Pair base ab gl gr gf rb rg ru nr room w) (r : Int) :
    ∃ x : Int, Two 42 127 #[.pointer (some ⟨ab, 0, none⟩), .int .i64 r] #[.pointer (some ⟨rb, 0, none⟩), .int .i64 r] (.int .i64 x) (Blk4 ab gl gr gf) (RaB base rb rg ru) (Pair base ab gl gr gf rb rg ru nr room) w := by
  have _hs := hs
  have h' := h
  obtain ⟨hv, R, V, h1, h2⟩ := h
  by_cases hr : 0 ≤ r ∧ r < nr
  · obtain ⟨k, rfl⟩ : ∃ k : Nat, r = k := ⟨r.toNat, by omega⟩
    exact ⟨hdI (R k), two_quiet h' (h_first w ab gl gr gf nr room R V h1 k (by omega)) (ra_first h2 k (by omega))⟩
  · exact ⟨-1, two_quiet h' (h_first_no w ab gl gr gf nr room R V h1 r hr) (ra_first_no h2 r hr)⟩

theorem two_len (w : World) (h : Pair base ab gl gr gf rb rg ru nr room w) (r : Int) :
    ∃ x : Int, Two 65 129 #[.pointer (some ⟨ab, 0, none⟩), .int .i64 r] #[.pointer (some ⟨rb, 0, none⟩), .int .i64 r] (.int .i64 x) (Blk4 ab gl gr gf) (RaB base rb rg ru) (Pair base ab gl gr gf rb rg ru nr room) w := by
  have _hs := hs
  have h' := h
  obtain ⟨hv, R, V, h1, h2⟩ := h
  by_cases hr : 0 ≤ r ∧ r < nr
  · obtain ⟨k, rfl⟩ : ∃ k : Nat, r = k := ⟨r.toNat, by omega⟩
    exact ⟨(R k).length, two_quiet h' (h_len w ab gl gr gf nr room R V h1 k (by omega)) (ra_len h2 k (by omega))⟩
  · exact ⟨0, two_quiet h' (h_len_no w ab gl gr gf nr room R V h1 r hr) (ra_len_no h2 r hr)⟩

theorem two_free (w : World) (h : Pair base ab gl gr gf rb rg ru nr room w) :
    ∃ x : Int, Two 69 130 #[.pointer (some ⟨ab, 0, none⟩)] #[.pointer (some ⟨rb, 0, none⟩)] (.int .i64 x) (Blk4 ab gl gr gf) (RaB base rb rg ru) (Pair base ab gl gr gf rb rg ru nr room) w := by
  have _hs := hs
  have h' := h
  obtain ⟨hv, R, V, h1, h2⟩ := h
  obtain ⟨k, hk, hc⟩ := h_free w ab gl gr gf nr room R V h1
  exact ⟨k, two_quiet h' hc (ra_free h2 k hk)⟩

theorem two_set (w : World) (h : Pair base ab gl gr gf rb rg ru nr room w) (n v : Int) :
    ∃ y : Bool, Two 123 124 #[.pointer (some ⟨ab, 0, none⟩), .int .i64 n, .int .i64 v] #[.pointer (some ⟨rb, 0, none⟩), .int .i64 n, .int .i64 v] (.bool y) (Blk4 ab gl gr gf) (RaB base rb rg ru) (Pair base ab gl gr gf rb rg ru nr room) w := by
  have h' := h
  obtain ⟨hv, R, V, h1, h2⟩ := h
  by_cases hn : ∃ r, r < nr ∧ ∃ m ∈ R r, (m : Int) = n
  · obtain ⟨r, hr, m, hm, rfl⟩ := hn
    obtain ⟨l1, l2, hl⟩ := List.append_of_mem hm
    refine ⟨true, (h_set w ab gl gr gf nr room R V h1 r m v hr hm).mono fun e w1 ⟨e1, e2, e3⟩ => ⟨e1, e3, ?_⟩⟩
    refine (ra_set (h2.only e3 (fun i hi hb => hs i hb hi)) h1.ok r m hr l1 l2 hl v).mono fun e w2 ⟨q1, q2, q3⟩ => ?_
    exact ⟨q1, ⟨hv, _, _, e2.keep q3 hs, q2⟩, q3⟩
  · have hn' : ∀ r, r < nr → ∀ m ∈ R r, (m : Int) ≠ n := fun r hr m hm e => hn ⟨r, hr, m, hm, e⟩
    exact ⟨false, two_quiet h' (h_set_no w ab gl gr gf nr room R V h1 n v hn') (ra_set_no h2 n hn' v)⟩
end

/-- A row of the document's, as it is read. -/
theorem RaAt.want {base : Nat} {w : World} {b gr gu nr room : Nat} {hv : Nat → Value} {R : Nat → List Nat} {V : Nat → Int} (h : RaAt base w b gr gu nr room hv R V) {r : Nat} (hr : r < nr) :
    ∃ a cap, w.cell? ⟨gr, r, none⟩ = some (.slice a (R r).length cap) ∧ (R r).length ≤ cap ∧ WantAt w a (R r) V := by
  obtain ⟨a, cap, e, hc⟩ := own_slice (h.own r hr)
  have hd := (h.hd r hr).cell
  rw [e] at hd
  refine ⟨a, cap, hd, hc, fun j x hx => ?_⟩
  obtain ⟨g, cap', e', _, _, hg, v1, v2⟩ := h.at_ hr hx
  rw [e] at e'
  injection e' with e1 e2 e3
  exact ⟨g, e1, hg, v1.cell, v2.cell⟩

set_option maxHeartbeats 2000000 in
theorem s_looks {base ab gl gr gf rb rg ru nr room : Nat} (w : World) (h : Pair base ab gl gr gf rb rg ru nr room w) :
    Calls Try.prog 76 #[.pointer (some ⟨ab, 0, none⟩), .pointer (some ⟨rb, 0, none⟩)] w fun e w' => e = .returned (.bool true) ∧ Only (fun _ => False) w w' := by
  obtain ⟨hv, R, V, h1, h2⟩ := h
  have hsm := h2.small
  have H1 := Lib.hid h1
  have H2 := Lib.hid h2
  clear h1 h2
  go_enter Try.func76, Try.ntmps76
  go_wp2_with fail
  go_loopw [5] (fun s wr => ∃ j : Nat, j ≤ nr ∧ s = .int .i64 j ∧ Only (fun _ => False) w wr) (fun s _ => nr - (intOf s).toNat)
  case atStart => exact ⟨0, by omega, rfl, Only.refl _ _⟩
  case round =>
    obtain ⟨j, hj, rfl, ho⟩ := hrel
    have c0 := (H2.out.c0.only ho id).cell
    have z0 := cell_lt c0
    by_cases hlt : j < nr ∧ j < 40
    · obtain ⟨hlt1, hlt2⟩ := hlt
      have t1 : decide (j < nr) = true := by simpa using hlt1
      have t2 : decide (j < 40) = true := by simpa using hlt2
      have t2' : decide ((j : Int) < 40) = true := by simp; omega
      have i1 : (0 : Int) ≤ (j : Int) ∧ (j : Int) < (nr : Int) := by omega
      obtain ⟨a, cap, hd, hc, hw⟩ := RaAt.want (H2.out.only ho (fun _ _ => id)) hlt1
      have z1 := cell_lt hd
      have HG := Lib.hid (s_goes wr ab gl gr gf nr room R V (H1.out.keep ho (fun _ _ => id)) j (R j) (.inl ⟨j, hlt1, rfl, rfl⟩) a (R j).length cap rfl hc hw)
      have w1 : IntKind.i64.wrap ((j : Int) + 1) = (j : Int) + 1 := by rw [IntKind.wrap_i64]; omega
      generalize (R j).length = len at *
      clear hc hw
      go_wp2_with fail
      refine HG.out.mono ?_
      rintro e w2 ⟨rfl, o2⟩
      go_wp2_with fail
      go_roundw
      case rel => exact ⟨j + 1, by omega, by go_num, ho.trans o2⟩
      case measure => simp [intOf]; omega
    · obtain ⟨k, hk, hc⟩ := h_free wr ab gl gr gf nr room R V (H1.out.keep ho (fun _ _ => id))
      have HF := Lib.hid hc
      have HR := Lib.hid (ra_free (H2.out.only ho (fun _ _ => id)) k hk)
      clear hk hc
      by_cases hlt1 : j < nr
      · have t1 : decide (j < nr) = true := by simpa using hlt1
        have t2 : decide (j < 40) = false := by simp; omega
        have t2' : decide ((j : Int) < 40) = false := by simp; omega
        go_wp2_with fail
        refine HF.out.mono ?_
        rintro e w2 ⟨rfl, rfl⟩
        go_wp2_with fail
        refine HR.out.mono ?_
        rintro e w3 ⟨rfl, rfl⟩
        go_wp2_with fail
        go_returns
        exact ⟨rfl, ho⟩
      · have t1 : decide (j < nr) = false := by simpa using hlt1
        go_wp2_with fail
        refine HF.out.mono ?_
        rintro e w2 ⟨rfl, rfl⟩
        go_wp2_with fail
        refine HR.out.mono ?_
        rintro e w3 ⟨rfl, rfl⟩
        go_wp2_with fail
        go_returns
        exact ⟨rfl, ho⟩
end Go.Proofs.Ytiiflgihjnlmcaa
