/- The book: what the law's facing says of Facing's value. Conditions: a book as its New lays it; the list is read. -/
import Derived.Test.YtilngakgofjmpaaBkO
import Derived.Test.YtilngakgofjmpaaBk8
namespace Go.Proofs.Ytilngakgofjmpaa
set_option linter.unusedVariables false
set_option linter.unusedSimpArgs false
open Go.RowKit Go.Shelf
open Od (OrdR Lay FreeN Blk4)
attribute [local go_sem] Oper.semAt_some

/-- Of what is no side nothing is told. -/
theorem bk_iter_no {w : World} {T : Nat → Prop} {Bs Bb Bl : Nat} (s : Int) (hs : sidedB s = false) (hBs : Cell w Bs 0 (.int .u8 s)) :
    SeqT Try.prog 140 #[.pointer (some ⟨Bs, 0, none⟩), .pointer (some ⟨Bb, 0, none⟩), .pointer (some ⟨Bl, 0, none⟩)] encO (KT T Bs Bb Bl) [] w := fun ly J Jx W T0 hsz hK hT hJ hJx hY h0 => by
  have hBs := (hBs.blk (hK Bs (.inr (.inl rfl)))).cell
  have zs := cell_lt hBs
  have HS := Lib.hid (k_sided s)
  rw [hs] at HS
  have HJ := Lib.hid hJ
  have H0 := Lib.hid h0
  clear hT hJ hJx hY hK hsz h0 hs
  simp only [List.push_toArray, List.append_toArray, List.nil_append, List.cons_append]
  go_enter Try.func140, Try.ntmps140
  go_wp2_with fail
  refine (HS.out _).mono ?_
  rintro e w1 ⟨rfl, rfl⟩
  go_wp2_with fail
  go_returns
  exact ⟨⟨_, rfl⟩, .inl ⟨T0, HJ.out _ _ _ _ (fun _ => False) H0.out ((Only.refl _ W).alloc _) (fun _ h => h.elim)⟩⟩

/-- Whom an order of a side would meet. -/
def facO (l : Bool → List OrdR) (s lim : Int) : List OrdR := if s = 1 then facL 1 lim (l true) else if s = 2 then facL (-1) lim (l false) else []
theorem facO_len (l : Bool → List OrdR) (s lim : Int) : (facO l s lim).length ≤ (l false).length + (l true).length := by
  have h : ∀ sg (m : List OrdR), (facL sg lim m).length ≤ m.length := fun sg m => by
    unfold facL
    split
    · exact Nat.le_refl _
    · exact List.length_filter_le _ _
  unfold facO
  split
  · have := h 1 (l true); omega
  · split
    · have := h (-1) (l false); omega
    · simp
theorem bk_fac_iter {w : World} {b most room : Nat} {T : Nat → Prop} {l : Bool → List OrdR} (h : Bk w b T most room l) (s lim : Int) {Bs Bb Bl : Nat} (hBs : Cell w Bs 0 (.int .u8 (facS s))) (hBb : Cell w Bb 0 (.pointer (some ⟨b, 0, none⟩))) (hBl : Cell w Bl 0 (.int .i64 (if sidedB s then lim else 0))) :
    SeqT Try.prog 140 #[.pointer (some ⟨Bs, 0, none⟩), .pointer (some ⟨Bb, 0, none⟩), .pointer (some ⟨Bl, 0, none⟩)] encO (KT T Bs Bb Bl) (facO l s lim) w := by
  by_cases h1 : s = 1
  · subst h1
    exact bk_iter h true lim hBs hBb hBl
  · by_cases h2 : s = 2
    · subst h2
      exact bk_iter h false lim hBs hBb hBl
    · have e1 : facS s = 0 := by unfold facS; rw [if_neg h1, if_neg h2]
      have e2 : facO l s lim = [] := by unfold facO; rw [if_neg h1, if_neg h2]
      rw [e1] at hBs
      rw [e2]
      exact bk_iter_no 0 rfl hBs

theorem pre_at {α : Type} {s : List α} {x : α} {l : List α} (h : s ++ [x] <+: l) : l[s.length]? = some x := by
  obtain ⟨t, rfl⟩ := h
  simp

/-- Told so far. -/
structure FcI (Wc : World) (B : Nat) (s : List OrdR) (T : Nat → Prop) (A : World) : Prop where
  t : T = (· = B)
  c : Cell A B 0 (.int .i64 (s.length : Nat))
  only : Only (· = B) Wc A
structure FcJ (Wc : World) (B : Nat) (s : List OrdR) (T : Nat → Prop) (A : World) : Prop where
  t : T = (· = B)
  s : s = []
  c : Cell A B 0 (.bool false)
  only : Only (· = B) Wc A
structure FcX (Wc : World) (B : Nat) (c : Code) (s : List OrdR) (T : Nat → Prop) (A : World) : Prop where
  k : c = .ret
  t : T = (· = B)
  c : Cell A B 0 (.bool true)
  only : Only (· = B) Wc A

end Go.Proofs.Ytilngakgofjmpaa
