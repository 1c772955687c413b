/- Slots: Get, Set, Row, Len, Free over rows of numbers. Conditions: an arena as New lays it. -/
import Derived.Test.YtkglplngnjgnhaaOrdS
namespace Go.Proofs.Ytkglplngnjgnhaa
set_option linter.unusedVariables false
set_option linter.unusedSimpArgs false
namespace Od
open Go.RowKit

/-- The numbers of the first rows. -/
def rowsL (R : Nat → List Nat) : Nat → List Nat
  | 0 => []
  | n + 1 => rowsL R n ++ R n
theorem mem_rowsL {R : Nat → List Nat} {x : Nat} : ∀ {n : Nat}, x ∈ rowsL R n ↔ ∃ r, r < n ∧ x ∈ R r := by
  intro n
  induction n with
  | zero => simp [rowsL]
  | succ n ih =>
    simp only [rowsL, List.mem_append, ih]
    constructor
    · rintro (⟨r, h1, h2⟩ | h)
      · exact ⟨r, by omega, h2⟩
      · exact ⟨n, by omega, h⟩
    · rintro ⟨r, h1, h2⟩
      by_cases e : r = n
      · exact .inr (e ▸ h2)
      · exact .inl ⟨r, by omega, h2⟩
theorem nodup_sub : ∀ (l m : List Nat), l.Nodup → (∀ x ∈ l, x ∈ m) → l.length ≤ m.length := by
  intro l
  induction l with
  | nil => intro m _ _; simp
  | cons a t ih =>
    intro m hn hs
    have ha := hs a (by simp)
    have h2 := List.nodup_cons.1 hn
    have := ih (m.erase a) h2.2 (fun x hx => by
      have hne : x ≠ a := fun e => h2.1 (by rw [← e]; exact hx)
      exact (List.mem_erase_of_ne hne).2 (hs x (by simp [hx])))
    rw [List.length_erase_of_mem ha] at this
    have := List.length_pos_of_mem ha
    simp only [List.length_cons]
    omega

theorem Rep.count {A : Ar} {R : Nat → List Nat} (h : Rep A R) : A.nf + (rowsL R A.nr).length = A.room := by
  have hrows : ∀ n, n ≤ A.nr → (rowsL R n).Nodup := by
    intro n
    induction n with
    | zero => intro _; exact List.nodup_nil
    | succ n ih =>
      intro hn
      rw [rowsL, List.nodup_append]
      refine ⟨ih (by omega), h.nd n (by omega), fun a ha b hb e => ?_⟩
      obtain ⟨r, hr, hm⟩ := mem_rowsL.1 ha
      have := h.other (by omega) (by omega) hm (show a ∈ R n by rw [e]; exact hb)
      omega
  have hF : ((List.range A.nf).map fun i => (A.fr i).toNat).Nodup := by
    unfold List.Nodup
    rw [List.pairwise_map]
    refine List.Pairwise.imp_of_mem (fun {i j} hi hj hne e => ?_) (List.nodup_range (n := A.nf))
    have hi' : i < A.nf := by simpa using hi
    have hj' : j < A.nf := by simpa using hj
    obtain ⟨m, _, _, h3⟩ := h.ho.mem i hi'
    obtain ⟨m', _, _, h3'⟩ := h.ho.mem j hj'
    rw [h3, h3'] at e
    simp at e
    exact hne (h.ho.inj i j hi' hj' (by rw [h3, h3', e]))
  have hmF : ∀ x, x ∈ ((List.range A.nf).map fun i => (A.fr i).toNat) → x < A.room ∧ A.ro x = -1 := by
    intro x hx
    obtain ⟨i, hi, e⟩ := List.mem_map.1 hx
    obtain ⟨m, h1, h2, h3⟩ := h.ho.mem i (by simpa using hi)
    rw [h3] at e
    simp at e
    exact ⟨by omega, by rw [← e]; exact h2⟩
  have hall : (((List.range A.nf).map fun i => (A.fr i).toNat) ++ rowsL R A.nr).Nodup := by
    rw [List.nodup_append]
    refine ⟨hF, hrows _ (Nat.le_refl _), fun a ha b hb e => ?_⟩
    obtain ⟨r, hr, hm⟩ := mem_rowsL.1 hb
    have h1 := (hmF a ha).2
    have h2 := h.ro r hr b hm
    rw [e] at h1
    omega
  have up := nodup_len A.room _ hall (fun x hx => by
    rcases List.mem_append.1 hx with h1 | h1
    · exact (hmF x h1).1
    · obtain ⟨r, hr, hm⟩ := mem_rowsL.1 h1
      exact h.lt r hr x hm)
  have lo := nodup_sub (List.range A.room) (((List.range A.nf).map fun i => (A.fr i).toNat) ++ rowsL R A.nr) List.nodup_range (fun x hx => by
    have hx : x < A.room := by simpa using hx
    rw [List.mem_append]
    rcases h.fr x hx with h1 | ⟨r, hr, _, h2⟩
    · obtain ⟨i, hi, hi'⟩ := h.ho.all x ⟨x, hx, h1, rfl⟩
      exact .inl (List.mem_map.2 ⟨i, by simpa using hi, by rw [hi']; simp⟩)
    · exact .inr (mem_rowsL.2 ⟨r, hr, h2⟩))
  simp at up lo
  omega

variable (w : World) (b gl gr gf nr room : Nat) (R : Nat → List Nat) (V : Nat → OrdR)

theorem h_get (h : Lay w b gl gr gf nr room R V) (r n : Nat) (hr : r < nr) (hn : n ∈ R r) :
    Calls Try.prog 79 #[.pointer (some ⟨b, 0, none⟩), .int .i64 n] w fun e w' => e = .returned (.tuple #[.agg #[.int .i64 (V n).i, .int .i64 (V n).c, .int .u8 (V n).s, .int .i64 (V n).p, .int .i64 (V n).q], .bool true]) ∧ Only (fun _ => False) w w' := by
  obtain ⟨A, hA, hR, rfl, rfl, rfl, rfl, rfl, ht⟩ := h
  exact s_get w b A n (V n).i (V n).c (V n).s (V n).p (V n).q hA (hR.has hr hn) (by rw [Int.toNat_natCast]; exact ht n (hR.lt r hr n hn))
theorem h_get_no (h : Lay w b gl gr gf nr room R V) (n : Int) (hn : ∀ r, r < nr → ∀ m ∈ R r, (m : Int) ≠ n) :
    Calls Try.prog 79 #[.pointer (some ⟨b, 0, none⟩), .int .i64 n] w fun e w' => e = .returned (.tuple #[.agg #[.int .i64 0, .int .i64 0, .int .u8 0, .int .i64 0, .int .i64 0], .bool false]) ∧ Only (fun _ => False) w w' := by
  obtain ⟨A, hA, hR, rfl, rfl, rfl, rfl, rfl, ht⟩ := h
  exact s_get_no w b A n hA (hR.hasNo hn)
theorem h_set (h : Lay w b gl gr gf nr room R V) (r n : Nat) (v : OrdR) (hr : r < nr) (hn : n ∈ R r) :
    Calls Try.prog 91 #[.pointer (some ⟨b, 0, none⟩), .int .i64 n, .agg #[.int .i64 v.i, .int .i64 v.c, .int .u8 v.s, .int .i64 v.p, .int .i64 v.q]] w fun e w' => e = .returned (.bool true) ∧ Lay w' b gl gr gf nr room R (upd V n v) ∧ Only (Blk4 b gl gr gf) w w' := by
  obtain ⟨A, hA, hR, rfl, rfl, rfl, rfl, rfl, ht⟩ := h
  refine (s_set w b A n v.i v.c v.s v.p v.q hA (hR.has hr hn)).mono fun e w' ⟨p1, p2, p3⟩ => ⟨p1, ⟨_, p2, ⟨hR.lt, hR.ro, hR.nd, hR.fr, hR.hd, hR.la, hR.ln, hR.lk, hR.hp, hR.ho, hR.nf⟩, rfl, rfl, rfl, rfl, rfl, fun k hk => ?_⟩, p3⟩
  show upd A.th n _ k = _
  by_cases e : k = n
  · subst e; rw [upd_same, upd_same]
  · rw [upd_other e, upd_other e]; exact ht k hk
theorem h_set_no (h : Lay w b gl gr gf nr room R V) (n : Int) (v : OrdR) (hn : ∀ r, r < nr → ∀ m ∈ R r, (m : Int) ≠ n) :
    Calls Try.prog 91 #[.pointer (some ⟨b, 0, none⟩), .int .i64 n, .agg #[.int .i64 v.i, .int .i64 v.c, .int .u8 v.s, .int .i64 v.p, .int .i64 v.q]] w fun e w' => e = .returned (.bool false) ∧ Only (fun _ => False) w w' := by
  obtain ⟨A, hA, hR, rfl, rfl, rfl, rfl, rfl, ht⟩ := h
  exact s_set_no w b A n v.i v.c v.s v.p v.q hA (hR.hasNo hn)
theorem h_row (h : Lay w b gl gr gf nr room R V) (r n : Nat) (hr : r < nr) (hn : n ∈ R r) :
    Calls Try.prog 60 #[.pointer (some ⟨b, 0, none⟩), .int .i64 n] w fun e w' => e = .returned (.int .i64 r) ∧ w = w' := by
  obtain ⟨A, hA, hR, rfl, rfl, rfl, rfl, rfl, ht⟩ := h
  have := s_row w b A n hA
  rw [if_pos (hR.has hr hn), Int.toNat_natCast, hR.ro r hr n hn] at this
  exact this
theorem h_row_no (h : Lay w b gl gr gf nr room R V) (n : Int) (hn : ∀ r, r < nr → ∀ m ∈ R r, (m : Int) ≠ n) :
    Calls Try.prog 60 #[.pointer (some ⟨b, 0, none⟩), .int .i64 n] w fun e w' => e = .returned (.int .i64 (-1)) ∧ w = w' := by
  obtain ⟨A, hA, hR, rfl, rfl, rfl, rfl, rfl, ht⟩ := h
  have := s_row w b A n hA
  rw [if_neg (hR.hasNo hn)] at this
  exact this
theorem h_len (h : Lay w b gl gr gf nr room R V) (r : Nat) (hr : r < nr) :
    Calls Try.prog 62 #[.pointer (some ⟨b, 0, none⟩), .int .i64 r] w fun e w' => e = .returned (.int .i64 (R r).length) ∧ w = w' := by
  obtain ⟨A, hA, hR, rfl, rfl, rfl, rfl, rfl, ht⟩ := h
  have := s_len w b A r hA
  rw [if_pos (show A.isRow r from ⟨by omega, by omega⟩), Int.toNat_natCast, hR.ln r hr] at this
  exact this
theorem h_len_no (h : Lay w b gl gr gf nr room R V) (r : Int) (hr : ¬ (0 ≤ r ∧ r < nr)) :
    Calls Try.prog 62 #[.pointer (some ⟨b, 0, none⟩), .int .i64 r] w fun e w' => e = .returned (.int .i64 0) ∧ w = w' := by
  obtain ⟨A, hA, hR, rfl, rfl, rfl, rfl, rfl, ht⟩ := h
  have := s_len w b A r hA
  rw [if_neg (show ¬ A.isRow r from hr)] at this
  exact this
end Od
end Go.Proofs.Ytkglplngnjgnhaa
