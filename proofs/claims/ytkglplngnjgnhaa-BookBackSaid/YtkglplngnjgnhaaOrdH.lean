/- Slots: what the calls do to rows of numbers and the things of the numbers: contracts with no links and no heap in sight. Conditions: an arena as New lays it, at most 65536 rows and numbers. -/
import Derived.Test.YtkglplngnjgnhaaOrdT
namespace Go.Proofs.Ytkglplngnjgnhaa
set_option linter.unusedVariables false
set_option linter.unusedSimpArgs false
namespace Od
open Go.RowKit

/-- An order's five numbers. -/
structure OrdR where
  i : Int
  c : Int
  s : Int
  p : Int
  q : Int

--<shared>
/-- A number that stands in no row. -/
def FreeN (nr room : Nat) (R : Nat → List Nat) (n : Nat) : Prop := n < room ∧ ∀ r, r < nr → n ∉ R r
/-- The blocks of an arena. -/
def Blk4 (b gl gr gf : Nat) (i : Nat) : Prop := i = b ∨ i = gl ∨ i = gr ∨ i = gf

theorem Rep.free {A : Ar} {R : Nat → List Nat} (h : Rep A R) {n : Nat} (hn : n < A.room) : A.ro n = -1 ↔ FreeN A.nr A.room R n := by
  constructor
  · intro e
    exact ⟨hn, fun r hr hm => by have := h.ro r hr n hm; omega⟩
  · intro e
    rcases h.fr n hn with h1 | ⟨r, hr, _, h2⟩
    · exact h1
    · exact absurd h2 (e.2 r hr)
theorem Rep.has {A : Ar} {R : Nat → List Nat} (h : Rep A R) {r n : Nat} (hr : r < A.nr) (hn : n ∈ R r) : A.hasN n :=
  ⟨⟨by omega, by have := h.lt r hr n hn; omega⟩, by rw [Int.toNat_natCast, h.ro r hr n hn]; omega⟩
theorem Rep.hasNo {A : Ar} {R : Nat → List Nat} (h : Rep A R) {n : Int} (hn : ∀ r, r < A.nr → ∀ m ∈ R r, (m : Int) ≠ n) : ¬ A.hasN n := by
  rintro ⟨⟨h1, h2⟩, h3⟩
  rcases h.fr n.toNat (by omega) with h4 | ⟨r, hr, _, h5⟩
  · exact h3 h4
  · exact hn r hr _ h5 (by omega)

--</shared>
structure LayA (w : World) (b gl gr gf nr room : Nat) (R : Nat → List Nat) (V : Nat → OrdR) (A : Ar) : Prop where
  at_ : ArAt w b A
  rep : Rep A R
  egl : A.gl = gl
  egr : A.gr = gr
  egf : A.gf = gf
  enr : A.nr = nr
  erm : A.room = room
  th : ∀ n, n < room → A.th n = .agg #[.int .i64 (V n).i, .int .i64 (V n).c, .int .u8 (V n).s, .int .i64 (V n).p, .int .i64 (V n).q]
/-- An arena lies there: of each row its numbers, of each number its thing. -/
def Lay (w : World) (b gl gr gf nr room : Nat) (R : Nat → List Nat) (V : Nat → OrdR) : Prop := ∃ A, LayA w b gl gr gf nr room R V A

theorem Lay.small {w : World} {b gl gr gf nr room : Nat} {R : Nat → List Nat} {V : Nat → OrdR} (h : Lay w b gl gr gf nr room R V) : room ≤ 65536 ∧ nr ≤ 65536 := by
  obtain ⟨A, h⟩ := h
  have := h.at_.small
  have := h.enr
  have := h.erm
  omega
theorem Lay.lt {w : World} {b gl gr gf nr room : Nat} {R : Nat → List Nat} {V : Nat → OrdR} (h : Lay w b gl gr gf nr room R V) {r n : Nat} (hr : r < nr) (hn : n ∈ R r) : n < room := by
  obtain ⟨A, h⟩ := h
  have := h.rep.lt r (by rw [h.enr]; exact hr) n hn
  rwa [h.erm] at this
theorem Lay.nd {w : World} {b gl gr gf nr room : Nat} {R : Nat → List Nat} {V : Nat → OrdR} (h : Lay w b gl gr gf nr room R V) {r : Nat} (hr : r < nr) : (R r).Nodup := by
  obtain ⟨A, h⟩ := h
  exact h.rep.nd r (by rw [h.enr]; exact hr)
theorem Lay.other {w : World} {b gl gr gf nr room : Nat} {R : Nat → List Nat} {V : Nat → OrdR} (h : Lay w b gl gr gf nr room R V) {r s n : Nat} (hr : r < nr) (hs : s < nr) (hn : n ∈ R r) (hm : n ∈ R s) : r = s := by
  obtain ⟨A, h⟩ := h
  exact h.rep.other (by rw [h.enr]; exact hr) (by rw [h.enr]; exact hs) hn hm
theorem Lay.blk {w : World} {b gl gr gf nr room : Nat} {R : Nat → List Nat} {V : Nat → OrdR} (h : Lay w b gl gr gf nr room R V) (i : Nat) (hi : Blk4 b gl gr gf i) : i < w.heap.size := by
  obtain ⟨A, h⟩ := h
  have h1 := h.at_.c0.lt
  have h2 := h.at_.lr
  have h3 := h.at_.gf_lt
  rw [h.egl, h.egr] at h2
  rw [h.egf] at h3
  rcases hi with e | e | e | e <;> subst e
  · exact h1
  · exact h2.1
  · exact h2.2
  · exact h3
theorem Lay.keep {w w' : World} {b gl gr gf nr room : Nat} {R : Nat → List Nat} {V : Nat → OrdR} (h : Lay w b gl gr gf nr room R V) {S : Nat → Prop} (ho : Only S w w') (hS : ∀ i, Blk4 b gl gr gf i → ¬ S i) : Lay w' b gl gr gf nr room R V := by
  obtain ⟨A, h⟩ := h
  exact ⟨A, ⟨h.at_.only ho (hS b (.inl rfl)) (hS A.gl (.inr (.inl h.egl))) (hS A.gr (.inr (.inr (.inl h.egr)))) (hS A.gf (.inr (.inr (.inr h.egf)))), h.rep, h.egl, h.egr, h.egf, h.enr, h.erm, h.th⟩⟩

def HNew (w : World) (nr room : Nat) (e : Ending) (w' : World) : Prop :=
  ∃ b gl gr gf, e = .returned (.tuple #[.pointer (some ⟨b, 0, none⟩), .int .i64 0]) ∧ Lay w' b gl gr gf nr room (fun _ => []) (fun _ => ⟨0, 0, 0, 0, 0⟩) ∧ Only (fun _ => False) w w' ∧ w.heap.size ≤ b ∧ w.heap.size ≤ gl ∧ w.heap.size ≤ gr ∧ w.heap.size ≤ gf

theorem h_new (w : World) (nr room : Nat) (h1 : 1 ≤ nr) (h2 : nr ≤ 65536) (h3 : room ≤ 65536) :
    Calls Try.prog 54 #[.int .i64 nr, .int .i64 room] w (HNew w nr room) := by
  refine (s_new w nr room h1 h2 h3).mono fun e w' h => ?_
  obtain ⟨b, gl, gr, gf, he, hA, ho, g1, g2, g3, g4⟩ := h
  exact ⟨b, gl, gr, gf, he, ⟨_, hA, Rep.init _ _ _ _ _ _, rfl, rfl, rfl, rfl, rfl, fun _ _ => rfl⟩, ho, g1, g2, g3, g4⟩

theorem h_push (w : World) (b gl gr gf nr room : Nat) (R : Nat → List Nat) (V : Nat → OrdR) (h : Lay w b gl gr gf nr room R V) (r n : Nat) (v : OrdR) (hr : r < nr) (hn : FreeN nr room R n) (hmin : ∀ m, FreeN nr room R m → n ≤ m) :
    Calls Try.prog 58 #[.pointer (some ⟨b, 0, none⟩), .int .i64 r, .agg #[.int .i64 v.i, .int .i64 v.c, .int .u8 v.s, .int .i64 v.p, .int .i64 v.q]] w fun e w' => e = .returned (.tuple #[.int .i64 n, .int .i64 0]) ∧ Lay w' b gl gr gf nr room (upd R r (R r ++ [n])) (upd V n v) ∧ Only (Blk4 b gl gr gf) w w' := by
  obtain ⟨A, hA, hR, rfl, rfl, rfl, rfl, rfl, ht⟩ := h
  have hs := hA.small
  have hro := (hR.free hn.1).2 hn
  obtain ⟨i, hi, _⟩ := hR.ho.all n ⟨n, hn.1, hro, rfl⟩
  have hnf : 0 < A.nf := by omega
  obtain ⟨m, h1, h2, h3, h4, _⟩ := hR.least hnf
  have e1 : n ≤ m := hmin m ((hR.free h2).1 h3)
  have e2 : m ≤ n := h4 n hn.1 hro
  obtain rfl : m = n := by omega
  have hla := hR.la r hr
  have hln := hR.ln r hr
  have hlen := hR.len hr
  refine (s_push w b A r v.i v.c v.s v.p v.q hA hr hnf m h1 h2 ?_ ⟨by omega, by omega⟩).mono fun e w' ⟨p1, p2, p3⟩ => ⟨p1, ⟨_, p2, hR.push hr hnf h1 _, rfl, rfl, rfl, rfl, rfl, fun k hk => ?_⟩, p3⟩
  · by_cases e : R r = []
    · exact .inl (by rw [hla, e]; rfl)
    · obtain ⟨k, x, hk, hx⟩ := laI_split e
      have := hR.lt r hr x (by rw [hk]; simp)
      exact .inr ⟨by omega, by omega⟩
  · have e : (A.push r (.agg #[.int .i64 v.i, .int .i64 v.c, .int .u8 v.s, .int .i64 v.p, .int .i64 v.q])).th = upd A.th m (.agg #[.int .i64 v.i, .int .i64 v.c, .int .u8 v.s, .int .i64 v.p, .int .i64 v.q]) := by unfold Ar.push; rw [h1]; rfl
    rw [e]
    by_cases e2 : k = m
    · subst e2; rw [upd_same, upd_same]
    · rw [upd_other e2, upd_other e2]; exact ht k hk

theorem h_push_bad (w : World) (b gl gr gf nr room : Nat) (R : Nat → List Nat) (V : Nat → OrdR) (h : Lay w b gl gr gf nr room R V) (r : Int) (v : OrdR) (hr : ¬ (0 ≤ r ∧ r < nr)) :
    Calls Try.prog 58 #[.pointer (some ⟨b, 0, none⟩), .int .i64 r, .agg #[.int .i64 v.i, .int .i64 v.c, .int .u8 v.s, .int .i64 v.p, .int .i64 v.q]] w fun e w' => e = .returned (.tuple #[.int .i64 0, .int .i64 1]) ∧ Only (fun _ => False) w w' := by
  obtain ⟨A, hA, hR, rfl, rfl, rfl, rfl, rfl, ht⟩ := h
  exact s_push_bad w b A r v.i v.c v.s v.p v.q hA hr

theorem h_push_full (w : World) (b gl gr gf nr room : Nat) (R : Nat → List Nat) (V : Nat → OrdR) (h : Lay w b gl gr gf nr room R V) (r : Int) (v : OrdR) (hr : 0 ≤ r ∧ r < nr) (hn : ∀ n, ¬ FreeN nr room R n) :
    Calls Try.prog 58 #[.pointer (some ⟨b, 0, none⟩), .int .i64 r, .agg #[.int .i64 v.i, .int .i64 v.c, .int .u8 v.s, .int .i64 v.p, .int .i64 v.q]] w fun e w' => e = .returned (.tuple #[.int .i64 0, .int .i64 40]) ∧ Only (fun _ => False) w w' := by
  obtain ⟨A, hA, hR, rfl, rfl, rfl, rfl, rfl, ht⟩ := h
  refine s_push_full w b A r v.i v.c v.s v.p v.q hA hr ?_
  rcases Nat.eq_zero_or_pos A.nf with h0 | h0
  · exact h0
  · obtain ⟨m, h1, h2, h3, _⟩ := hR.least h0
    exact absurd ((hR.free h2).1 h3) (hn m)

theorem h_take_no (w : World) (b gl gr gf nr room : Nat) (R : Nat → List Nat) (V : Nat → OrdR) (h : Lay w b gl gr gf nr room R V) (n : Int) (hn : ∀ r, r < nr → ∀ m ∈ R r, (m : Int) ≠ n) :
    Calls Try.prog 61 #[.pointer (some ⟨b, 0, none⟩), .int .i64 n] w fun e w' => e = .returned (.tuple #[.agg #[.int .i64 0, .int .i64 0, .int .u8 0, .int .i64 0, .int .i64 0], .bool false]) ∧ Only (fun _ => False) w w' := by
  obtain ⟨A, hA, hR, rfl, rfl, rfl, rfl, rfl, ht⟩ := h
  exact s_take_no w b A n hA (hR.hasNo hn)

theorem h_take (w : World) (b gl gr gf nr room : Nat) (R : Nat → List Nat) (V : Nat → OrdR) (h : Lay w b gl gr gf nr room R V) (r n : Nat) (hr : r < nr) (l1 l2 : List Nat) (hs : R r = l1 ++ n :: l2) :
    Calls Try.prog 61 #[.pointer (some ⟨b, 0, none⟩), .int .i64 n] w fun e w' => e = .returned (.tuple #[.agg #[.int .i64 (V n).i, .int .i64 (V n).c, .int .u8 (V n).s, .int .i64 (V n).p, .int .i64 (V n).q], .bool true]) ∧ Lay w' b gl gr gf nr room (upd R r (l1 ++ l2)) (upd V n ⟨0, 0, 0, 0, 0⟩) ∧ Only (Blk4 b gl gr gf) w w' := by
  obtain ⟨A, hA, hR, rfl, rfl, rfl, rfl, rfl, ht⟩ := h
  have hsm := hA.small
  have hnm : n ∈ R r := by rw [hs]; simp
  have hnr := hR.lt r hr n hnm
  have hro := hR.ro r hr n hnm
  have hln := hR.ln r hr
  have hlen := hR.len hr
  have hpos : 0 < (R r).length := by rw [hs, List.length_append, List.length_cons]; omega
  have hnf := hR.nf_lt hnr (by omega)
  obtain ⟨ha, hf⟩ := hR.lk r hr l1 n l2 hs
  have hv := ht n hnr
  have hc : 1 ≤ A.rn r ∧ A.rn r ≤ 65536 := by omega
  have hnd := hR.nd r hr
  rw [hs] at hnd
  have hnd2 := List.nodup_append.1 hnd
  have n1 : n ∉ l1 := fun hm => hnd2.2.2 n hm n (by simp) rfl
  have n2 : n ∉ l2 := (List.nodup_cons.1 hnd2.2.1).1
  have fin : ∀ e w', (e = Ending.returned (.tuple #[.agg #[.int .i64 (V n).i, .int .i64 (V n).c, .int .u8 (V n).s, .int .i64 (V n).p, .int .i64 (V n).q], .bool true]) ∧ ArAt w' b (A.take n (.agg #[.int .i64 0, .int .i64 0, .int .u8 0, .int .i64 0, .int .i64 0])) ∧ Only (A.blk b) w w') → e = .returned (.tuple #[.agg #[.int .i64 (V n).i, .int .i64 (V n).c, .int .u8 (V n).s, .int .i64 (V n).p, .int .i64 (V n).q], .bool true]) ∧ Lay w' b A.gl A.gr A.gf A.nr A.room (upd R r (l1 ++ l2)) (upd V n ⟨0, 0, 0, 0, 0⟩) ∧ Only (Blk4 b A.gl A.gr A.gf) w w' := by
    intro e w' ⟨p1, p2, p3⟩
    refine ⟨p1, ⟨_, p2, hR.take hr hs hnf _, rfl, rfl, rfl, rfl, rfl, fun k hk => ?_⟩, p3⟩
    show upd A.th n (.agg #[.int .i64 0, .int .i64 0, .int .u8 0, .int .i64 0, .int .i64 0]) k = _
    by_cases e2 : k = n
    · subst e2; rw [upd_same, upd_same]
    · rw [upd_other e2, upd_other e2]; exact ht k hk
  by_cases h1 : l1 = []
  · by_cases h2 : l2 = []
    · exact (s_take_nn w b A n r (V n).i (V n).c (V n).s (V n).p (V n).q hA hnr hro hr hv hc hnf (by rw [ha, h1]; rfl) (by rw [hf, h2]; rfl)).mono fin
    · obtain ⟨f, t, rfl⟩ : ∃ f t, l2 = f :: t := by cases l2 with | nil => exact absurd rfl h2 | cons a t => exact ⟨a, t, rfl⟩
      exact (s_take_ns w b A n r (V n).i (V n).c (V n).s (V n).p (V n).q hA hnr hro hr hv hc hnf (by rw [ha, h1]; rfl) f hf (hR.lt r hr f (by rw [hs]; simp)) (fun e => n2 (by simp [e]))).mono fin
  · obtain ⟨k, a, hk, hx⟩ := laI_split h1
    have har := hR.lt r hr a (by rw [hs, hk]; simp)
    have han : a ≠ n := fun e => n1 (by rw [hk, e]; simp)
    by_cases h2 : l2 = []
    · exact (s_take_sn w b A n r (V n).i (V n).c (V n).s (V n).p (V n).q hA hnr hro hr hv hc hnf a (by rw [ha, hx]) har han (by rw [hf, h2]; rfl)).mono fin
    · obtain ⟨f, t, rfl⟩ : ∃ f t, l2 = f :: t := by cases l2 with | nil => exact absurd rfl h2 | cons a t => exact ⟨a, t, rfl⟩
      exact (s_take_ss w b A n r (V n).i (V n).c (V n).s (V n).p (V n).q hA hnr hro hr hv hc hnf a (by rw [ha, hx]) har han f hf (hR.lt r hr f (by rw [hs]; simp)) (fun e => n2 (by simp [e])) (fun e => hnd2.2.2 a (by rw [hk]; simp) f (by simp) e)).mono fin

theorem h_first (w : World) (b gl gr gf nr room : Nat) (R : Nat → List Nat) (V : Nat → OrdR) (h : Lay w b gl gr gf nr room R V) (r : Nat) (hr : r < nr) :
    Calls Try.prog 111 #[.pointer (some ⟨b, 0, none⟩), .int .i64 r] w fun e w' => e = .returned (.int .i64 (hdI (R r))) ∧ w = w' := by
  obtain ⟨A, hA, hR, rfl, rfl, rfl, rfl, rfl, ht⟩ := h
  have := s_first w b A r hA
  rw [if_pos (show A.isRow r from ⟨by omega, by omega⟩), Int.toNat_natCast, hR.hd r hr] at this
  exact this
theorem h_first_no (w : World) (b gl gr gf nr room : Nat) (R : Nat → List Nat) (V : Nat → OrdR) (h : Lay w b gl gr gf nr room R V) (r : Int) (hr : ¬ (0 ≤ r ∧ r < nr)) :
    Calls Try.prog 111 #[.pointer (some ⟨b, 0, none⟩), .int .i64 r] w fun e w' => e = .returned (.int .i64 (-1)) ∧ w = w' := by
  obtain ⟨A, hA, hR, rfl, rfl, rfl, rfl, rfl, ht⟩ := h
  have := s_first w b A r hA
  rw [if_neg (show ¬ A.isRow r from hr)] at this
  exact this
end Od
end Go.Proofs.Ytkglplngnjgnhaa
