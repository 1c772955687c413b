/- The book's calls, with nothing of its memory in sight: what each answers, and the orders behind it. Conditions: a book as its New lays it. -/
import Derived.Test.YtilngakgofjmpaaBkD
namespace Go.Proofs.Ytilngakgofjmpaa
set_option linter.unusedVariables false
set_option linter.unusedSimpArgs false
open Go.RowKit Go.Shelf
open Od (OrdR Lay FreeN Blk4)

def qOf (s : Int) : Bool := decide (s = 2)
theorem sdN_qOf {s : Int} (h : sidedB s = true) : sdN (qOf s) = s := by
  unfold sidedB at h
  have h : s = 1 ∨ s = 2 := by simpa using h
  rcases h with rfl | rfl <;> rfl
/-- An order of the book. -/
def getL (l : Bool → List OrdR) (k : Int) : Option OrdR := (l false ++ l true).find? fun o => decide (o.i = k)
/-- What Insert answers. -/
def insE (most room : Nat) (l : Bool → List OrdR) (o : OrdR) : Int := if mayB o = false then 1 else if (getL l o.i).isSome then 62 else fitsE most room l (qOf o.s) o.p
/-- The orders behind it. -/
def insS (most room : Nat) (l : Bool → List OrdR) (o : OrdR) : Bool → List OrdR := if insE most room l o = 0 then setS l (qOf o.s) (insL (sgn (qOf o.s)) o (l (qOf o.s))) else l
def remV (l : Bool → List OrdR) (k : Int) : Value := match getL l k with | none => .tuple #[ordV zOrd, .int .i64 63] | some o => .tuple #[ordV o, .int .i64 0]
def remS (l : Bool → List OrdR) (k : Int) : Bool → List OrdR := fun q => delL k (l q)

theorem wf_le {x : Int} (h : Wf x) : -9223372036854775808 ≤ x ∧ x ≤ 9223372036854775807 := by
  unfold Wf Lit.wf at h
  simp [IntKind.min, IntKind.max, IntKind.signed, IntKind.bits] at h
  omega

/-- What is always so of a book's orders. -/
structure Good (most room : Nat) (l : Bool → List OrdR) : Prop where
  ids : ((l false ++ l true).map OrdR.i).Nodup
  ok : ∀ q, ∀ o ∈ l q, Okd o
  side : ∀ q, ∀ o ∈ l q, o.s = sdN q
  len : (l false).length + (l true).length ≤ room
  srt : ∀ q, (l q).Pairwise fun x y => sgn q * x.p ≤ sgn q * y.p
  prices : ∀ q, (pricesL (l q)).length ≤ most
  small : room ≤ 256 ∧ most ≤ 128

theorem nums_srt {side sg : Int} {first most : Nat} {R : Nat → List Nat} {V : Nat → OrdR} : ∀ {L : List (Int × Nat)}, Half side first most L R V → Srt sg L → ((nums first L R).map V).Pairwise fun x y => sg * x.p ≤ sg * y.p := by
  intro L h
  have hpr := h.pr
  clear h
  induction L with
  | nil => intro _; exact List.Pairwise.nil
  | cons x t ih =>
    intro hs
    have s2 := List.pairwise_cons.1 hs
    rw [nums_cons, List.map_append, List.pairwise_append]
    refine ⟨?_, ih (fun y hy => hpr y (by simp [hy])) s2.2, fun a ha b hb => ?_⟩
    · rw [List.pairwise_map]
      refine List.Pairwise.imp_of_mem (fun {a b} ha hb _ => ?_) (List.pairwise_of_forall_mem_list (r := fun _ _ => True) (fun _ _ _ _ => trivial))
      rw [(hpr x (by simp) a ha).1, (hpr x (by simp) b hb).1]
      exact Int.le_refl _
    · obtain ⟨n, hn, rfl⟩ := List.mem_map.1 ha
      obtain ⟨m, hm, rfl⟩ := List.mem_map.1 hb
      obtain ⟨y, hy, hm⟩ := mem_nums.1 hm
      rw [(hpr x (by simp) n hn).1, (hpr y (by simp [hy]) m hm).1]
      have := s2.1 y hy
      omega

section
variable {w : World} {b : Nat} {bs gu : Bool → Nat} {hv : Bool → Value} {ba gl gr gf bm most room : Nat} {L : Bool → List (Int × Nat)} {R : Nat → List Nat} {V : Nat → OrdR} {F : Int → Option Int} {l : Bool → List OrdR}
theorem BookM.good (h : BookM w b bs gu hv ba gl gr gf bm most room L R V F l) : Good most room l :=
  ⟨h.rep.ids, h.rep.ok, fun q o ho => h.rep.sides ho, h.rep.len, fun q => by rw [h.rep.e q]; exact nums_srt (h.rep.half q) (h.sd q).srt, fun q => by rw [h.prices q, List.length_map]; exact (h.sd q).len, h.small, h.mostLe⟩
theorem BkRep.getNone (h : BkRep most room L R V F l) {k : Int} (hw : Wf k) (hf : F k = none) : getL l k = none := by
  unfold getL
  rw [List.find?_eq_none]
  intro o ho
  simp only [decide_eq_true_eq]
  rcases List.mem_append.1 ho with h1 | h1
  · exact h.missed hw hf false o h1
  · exact h.missed hw hf true o h1
theorem BkRep.getSome (h : BkRep most room L R V F l) {k : Int} (hw : Wf k) {n : Nat} (hf : F k = some (n : Int)) : getL l k = some (V n) := by
  obtain ⟨m, q, hm, hmem, hi, hin⟩ := h.found hw hf
  obtain rfl : n = m := by omega
  have hex : ∃ o, getL l k = some o := by
    cases e : getL l k with
    | some o => exact ⟨o, rfl⟩
    | none =>
      unfold getL at e
      rw [List.find?_eq_none] at e
      have := e (V n) (List.mem_append.2 (by cases q; exact .inl hin; exact .inr hin))
      simp [hi] at this
  obtain ⟨o, ho⟩ := hex
  have h1 : o.i = k := by
    have := List.find?_some ho
    simpa using this
  have h2 := List.mem_of_find?_eq_some ho
  have h3 : ∃ q', o ∈ l q' := by
    rcases List.mem_append.1 h2 with h2 | h2
    · exact ⟨false, h2⟩
    · exact ⟨true, h2⟩
  obtain ⟨q', h3⟩ := h3
  rw [h.e q'] at h3
  obtain ⟨m, hm2, rfl⟩ := List.mem_map.1 h3
  rw [ho, (h.inj hm2 hmem (by rw [h1, hi])).1]
end

theorem Bk.good {w : World} {b most room : Nat} {T : Nat → Prop} {l : Bool → List OrdR} (h : Bk w b T most room l) : Good most room l := by
  obtain ⟨_, _, _, _, _, _, _, _, _, _, _, _, h, rfl⟩ := h
  exact h.good

section
variable {w : World} {b most room : Nat} {T : Nat → Prop} {l : Bool → List OrdR}
theorem bk_insert (h : Bk w b T most room l) (o : OrdR) (hw : Wf o.i) : Calls Try.prog 30 #[.pointer (some ⟨b, 0, none⟩), ordV o] w (BkPost w b T most room (insS most room l o) (.int .i64 (insE most room l o))) := by
  obtain ⟨bs, gu, hv, ba, gl, gr, gf, bm, L, R, V, F, h, rfl⟩ := h
  have stay : ∀ {E : Int}, insE most room l o = E → E ≠ 0 → ∀ (e : Ending) (w' : World), e = .returned (.int .i64 E) ∧ Only (fun _ => False) w w' → BkPost w b (BkT b bs gu hv ba gl gr gf bm) most room (insS most room l o) (.int .i64 (insE most room l o)) e w' := fun hE h0 e w' ⟨he, ho⟩ => by
    unfold insS
    rw [hE, if_neg h0]
    exact h.stay he ho
  cases hm : mayB o with
  | false =>
    have e : insE most room l o = 1 := by unfold insE; rw [if_pos hm]
    exact (k_ins_bad o hm).mono (stay e (by decide))
  | true =>
    have hp := mayB_parts hm
    have hs := sdN_qOf hp.2.2.1
    cases hf : F o.i with
    | some v =>
      obtain ⟨n, q, rfl, _⟩ := h.rep.found hw hf
      have e : insE most room l o = 62 := by unfold insE; rw [if_neg (by rw [hm]; decide), h.rep.getSome hw hf]; rfl
      exact (k_ins_twice h o hm hw (by rw [hf]; rfl)).mono (stay e (by decide))
    | none =>
      have e : insE most room l o = fitsE most room l (qOf o.s) o.p := by unfold insE; rw [if_neg (by rw [hm]; decide), h.rep.getNone hw hf]; rfl
      by_cases hE : fitsE most room l (qOf o.s) o.p = 0
      · have hok : Okd o := by
          obtain ⟨a1, a2, a3, a4, a5⟩ := hp
          unfold inB at a2 a4 a5
          simp only [decide_eq_true_eq] at a1 a2 a4 a5
          exact ⟨a1, (wf_le hw).2, a2.1, a2.2, a4.1, a4.2, a5.1, a5.2⟩
        have hlen : (l false).length + (l true).length < room := by
          have h1 := h.numLe
          unfold fitsE at hE
          by_cases h2 : 1 ≤ o.p ∧ o.p ≤ 1000000000
          · rw [if_neg (not_not_intro h2)] at hE
            by_cases h3 : (l false).length + (l true).length = room
            · rw [if_pos h3] at hE; cases hE
            · omega
          · rw [if_pos h2] at hE; cases hE
        obtain ⟨n, n1, n2, n3⟩ := h.rep.free hlen
        have e2 : insS most room l o = setS l (qOf o.s) (insL (sgn (qOf o.s)) o (l (qOf o.s))) := by unfold insS; rw [e, if_pos hE]
        rw [e2, e, hE]
        exact k_ins h o (qOf o.s) hs.symm hm hw hf hE n n1 n2 n3 hlen hok
      · exact (k_ins_fits h o (qOf o.s) hs.symm hm hw hf hE).mono (stay e hE)


theorem bk_fits (h : Bk w b T most room l) (q : Bool) (p : Int) : Calls Try.prog 73 #[.pointer (some ⟨b, 0, none⟩), .int .u8 (sdN q), .int .i64 p] w fun e w' => e = .returned (.int .i64 (fitsE most room l q p)) ∧ Only (fun _ => False) w w' := by
  obtain ⟨bs, gu, hv, ba, gl, gr, gf, bm, L, R, V, F, h, rfl⟩ := h
  exact k_fits h q p
theorem bk_depth (h : Bk w b T most room l) (q : Bool) (n : Nat) (h1 : 1 ≤ n) (h2 : n ≤ 9223372036854775807) : Calls Try.prog 41 #[.pointer (some ⟨b, 0, none⟩), .int .u8 (sdN q), .int .i64 (n : Nat)] w (LvPost w ((depthL (l q)).take n)) := by
  obtain ⟨bs, gu, hv, ba, gl, gr, gf, bm, L, R, V, F, h, rfl⟩ := h
  exact k_depth h q n h1 h2
end

/-! ### In and out again -/
theorem getL_not {l : Bool → List OrdR} {k : Int} (h : getL l k = none) (q : Bool) : ∀ o ∈ l q, o.i ≠ k := by
  unfold getL at h
  rw [List.find?_eq_none] at h
  intro o ho
  have := h o (List.mem_append.2 (by cases q; exact .inl ho; exact .inr ho))
  simpa using this
end Go.Proofs.Ytilngakgofjmpaa
