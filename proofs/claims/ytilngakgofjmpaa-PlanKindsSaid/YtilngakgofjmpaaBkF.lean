/- The book: Facing; its orders as an iterator, with nothing of its memory in sight. Conditions: a book as its New lays it. -/
import Derived.Test.YtilngakgofjmpaaBkR
namespace Go.Proofs.Ytilngakgofjmpaa
set_option linter.unusedVariables false
set_option linter.unusedSimpArgs false
open Go.RowKit Go.Shelf
open Od (OrdR Lay FreeN Blk4)

/-- The orders whose prices are as good as a limit. -/
def facL (sg lim : Int) (l : List OrdR) : List OrdR := if lim = 0 then l else l.filter fun o => decide (sg * o.p ≤ sg * lim)
theorem upto_parts {sg lim : Int} {L : List (Int × Nat)} (hsg : sg = 1 ∨ sg = -1) (hs : Srt sg L) (h0 : lim ≠ 0) : ∃ D, L = uptoL sg lim L ++ D ∧ (∀ x ∈ uptoL sg lim L, sg * x.1 ≤ sg * lim) ∧ (∀ x ∈ D, sg * lim < sg * x.1) := by
  unfold uptoL
  rw [if_neg h0]
  have hinj : ∀ {x : Int × Nat}, x ∈ L → sg * x.1 = sg * lim → has lim L = true := fun hx e => has_iff.2 ⟨_, hx, sg_inj hsg e⟩
  cases hh : has lim L with
  | true =>
    rw [if_pos rfl]
    refine ⟨L.drop (pos sg lim L + 1), (List.take_append_drop _ _).symm, fun x hx => ?_, fun x hx => ?_⟩
    · obtain ⟨y, hy, e⟩ := (has_at hsg hs).1 hh
      have hlt := (List.getElem?_eq_some_iff.1 hy).1
      rw [List.take_succ_eq_append_getElem hlt, (List.getElem?_eq_some_iff.1 hy).2] at hx
      rcases List.mem_append.1 hx with h1 | h1
      · have := take_pos hs h1; omega
      · have : x = y := by simpa using h1
        rw [this, e]; exact Int.le_refl _
    · obtain ⟨y, hy, e⟩ := (has_at hsg hs).1 hh
      have hlt := (List.getElem?_eq_some_iff.1 hy).1
      have hsp := split_at hy
      have hs2 := hs
      unfold Srt at hs2
      rw [hsp] at hs2
      have := (List.pairwise_cons.1 (List.pairwise_append.1 hs2).2.1).1 x hx
      rw [e] at this
      exact this
  | false =>
    rw [if_neg (by decide)]
    refine ⟨L.drop (pos sg lim L), (List.take_append_drop _ _).symm, fun x hx => ?_, fun x hx => ?_⟩
    · have := take_pos hs hx; omega
    · have h1 := drop_pos hs hx
      have h2 : sg * x.1 ≠ sg * lim := fun e => by
        have := hinj (List.mem_of_mem_drop hx) e
        rw [hh] at this; cases this
      omega
theorem upto_list {side sg lim : Int} {first most : Nat} {L : List (Int × Nat)} {R : Nat → List Nat} {V : Nat → OrdR} (h : Half side first most L R V) (hsg : sg = 1 ∨ sg = -1) (hs : Srt sg L) : (nums first (uptoL sg lim L) R).map V = facL sg lim ((nums first L R).map V) := by
  unfold facL
  by_cases h0 : lim = 0
  · rw [if_pos h0]; unfold uptoL; rw [if_pos h0]
  · rw [if_neg h0]
    obtain ⟨D, e, h1, h2⟩ := upto_parts hsg hs h0
    have k1 : ((nums first (uptoL sg lim L) R).map V).filter (fun o => decide (sg * o.p ≤ sg * lim)) = (nums first (uptoL sg lim L) R).map V := List.filter_eq_self.2 fun o ho => by
      obtain ⟨x, hx, e'⟩ := h.price (A := uptoL sg lim L) (fun x hx => by rw [e]; exact List.mem_append.2 (.inl hx)) ho
      have := h1 x hx
      simp [e', this]
    have k2 : ((nums first D R).map V).filter (fun o => decide (sg * o.p ≤ sg * lim)) = [] := List.filter_eq_nil_iff.2 fun o ho => by
      obtain ⟨x, hx, e'⟩ := h.price (A := D) (fun x hx => by rw [e]; exact List.mem_append.2 (.inr hx)) ho
      have := h2 x hx
      simp [e', this]
    conv => rhs; rw [e]
    rw [nums_append, List.map_append, List.filter_append, k1, k2, List.append_nil]

/-- What an iterator of the book reads. -/
def KT (T : Nat → Prop) (Bs Bb Bl : Nat) (i : Nat) : Prop := T i ∨ i = Bs ∨ i = Bb ∨ i = Bl
theorem bk_iter {w : World} {b most room : Nat} {T : Nat → Prop} {l : Bool → List OrdR} (h : Bk w b T most room l) (q : Bool) (lim : Int) {Bs Bb Bl : Nat} (hBs : Cell w Bs 0 (.int .u8 (sdN q))) (hBb : Cell w Bb 0 (.pointer (some ⟨b, 0, none⟩))) (hBl : Cell w Bl 0 (.int .i64 lim)) :
    SeqT Try.prog 140 #[.pointer (some ⟨Bs, 0, none⟩), .pointer (some ⟨Bb, 0, none⟩), .pointer (some ⟨Bl, 0, none⟩)] encO (KT T Bs Bb Bl) (facL (sgn q) lim (l q)) w := by
  obtain ⟨bs, gu, hv, ba, gl, gr, gf, bm, L, R, V, F, h, rfl⟩ := h
  have := bk_seq h q lim hBs hBb hBl
  rw [upto_list (h.rep.half q) (sgn_or q) (h.sd q).srt, ← h.rep.e q] at this
  exact this

/-- What Facing hands back: the other side's orders; of what is no side nothing. -/
def facS (s : Int) : Int := if s = 1 then 2 else if s = 2 then 1 else 0
theorem k_facing (w : World) (b : Nat) (s lim : Int) : Calls Try.prog 44 #[.pointer (some ⟨b, 0, none⟩), .int .u8 s, .int .i64 lim] w (ItPost w b (facS s) (if sidedB s then lim else 0)) := by
  have fin : ∀ {s' lim' : Int} (e : Ending) (w1 : World), ItPost w b s' lim' e w1 → ∃ f, e = .returned f := fun e w1 h => by
    obtain ⟨Bs, Bb, Bl, rfl, _⟩ := h
    exact ⟨_, rfl⟩
  by_cases h1 : s = 1
  · subst h1
    have H := Lib.hid (k_upto_it w b 2 lim)
    have e1 : facS 1 = 2 := rfl
    have e2 : sidedB 1 = true := rfl
    rw [e1, e2, if_pos rfl]
    clear e1 e2 fin
    go_enter Try.func44, Try.ntmps44
    go_wp2_with fail
    refine H.out.mono ?_
    intro e w1 hp
    obtain ⟨Bs, Bb, Bl, rfl, hr⟩ := hp
    have HR := Lib.hid hr
    clear hr
    go_wp2_with fail
    go_returns
    exact ⟨Bs, Bb, Bl, rfl, HR.out⟩
  · have t1 : (s == 1) = false := by simpa using h1
    by_cases h2 : s = 2
    · subst h2
      have H := Lib.hid (k_upto_it w b 1 lim)
      have e1 : facS 2 = 1 := rfl
      have e2 : sidedB 2 = true := rfl
      rw [e1, e2, if_pos rfl]
      clear e1 e2 fin h1
      go_enter Try.func44, Try.ntmps44
      go_wp2_with fail
      refine H.out.mono ?_
      intro e w1 hp
      obtain ⟨Bs, Bb, Bl, rfl, hr⟩ := hp
      have HR := Lib.hid hr
      clear hr
      go_wp2_with fail
      go_returns
      exact ⟨Bs, Bb, Bl, rfl, HR.out⟩
    · have t2 : (s == 2) = false := by simpa using h2
      have H := Lib.hid (k_upto_it w b 0 0)
      have e1 : facS s = 0 := by unfold facS; rw [if_neg h1, if_neg h2]
      have e2 : sidedB s = false := by unfold sidedB; simp [h1, h2]
      rw [e1, e2, if_neg (by decide)]
      clear e1 e2 fin h1 h2
      go_enter Try.func44, Try.ntmps44
      go_wp2_with fail
      refine H.out.mono ?_
      intro e w1 hp
      obtain ⟨Bs, Bb, Bl, rfl, hr⟩ := hp
      have HR := Lib.hid hr
      clear hr
      go_wp2_with fail
      go_returns
      exact ⟨Bs, Bb, Bl, rfl, HR.out⟩
end Go.Proofs.Ytilngakgofjmpaa
