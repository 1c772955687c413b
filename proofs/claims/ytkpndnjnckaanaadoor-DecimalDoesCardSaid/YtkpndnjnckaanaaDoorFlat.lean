/- Flat data: structs of structs of integers, bools and strings, read off memory cell by cell; slices of such. No condition. -/
import Derived.Deep.Slices
import Derived.Deep.Fields
import Derived.ChangeSame
import Derived.ProofKit
import Derived.OpenShut
import Derived.SizedLaws
namespace Go.Proofs.YtkpndnjnckaanaaDoor
set_option linter.unusedVariables false
set_option linter.unusedSimpArgs false
open Go.ChangeShapes Go.WideShapes Go.ChangeAt Go.RowKit Go.Deep

/-- The kind of one cell. -/
inductive LK where
  | i (k : IntKind)
  | b
  | s

def LK.fits : LK → Value → Prop
  | .i k, v => ∃ x, v = .int k x ∧ (Lit.int k x).wf = true
  | .b, v => ∃ x, v = .bool x
  | .s, v => ∃ x : ByteArray, v = .string x ∧ x.size ≤ maxLen

def Fits : List LK → List Value → Prop
  | [], [] => True
  | k :: ks, v :: vs => k.fits v ∧ Fits ks vs
  | _, _ => False

theorem Fits.append : ∀ {ks ks' : List LK} {vs vs' : List Value}, Fits ks vs → Fits ks' vs' → Fits (ks ++ ks') (vs ++ vs')
  | [], _, [], _, _, h' => h'
  | _ :: _, _, _ :: _, _, h, h' => ⟨h.1, h.2.append h'⟩
  | [], _, _ :: _, _, h, _ => h.elim
  | _ :: _, _, [], _, h, _ => h.elim

theorem Fits.length : ∀ {ks : List LK} {vs : List Value}, Fits ks vs → vs.length = ks.length
  | [], [], _ => rfl
  | _ :: _, _ :: _, h => by simp [h.2.length]
  | [], _ :: _, h => h.elim
  | _ :: _, [], h => h.elim

theorem fits_i {k : IntKind} {ks : List LK} {vs : List Value} (h : Fits (.i k :: ks) vs) : ∃ x vs', vs = .int k x :: vs' ∧ (Lit.int k x).wf = true ∧ Fits ks vs' := by
  cases vs with
  | nil => exact h.elim
  | cons v vs => obtain ⟨⟨x, rfl, hx⟩, h⟩ := h; exact ⟨x, vs, rfl, hx, h⟩
theorem fits_b {ks : List LK} {vs : List Value} (h : Fits (.b :: ks) vs) : ∃ x vs', vs = .bool x :: vs' ∧ Fits ks vs' := by
  cases vs with
  | nil => exact h.elim
  | cons v vs => obtain ⟨⟨x, rfl⟩, h⟩ := h; exact ⟨x, vs, rfl, h⟩
theorem fits_s {ks : List LK} {vs : List Value} (h : Fits (.s :: ks) vs) : ∃ x vs', vs = .string x :: vs' ∧ x.size ≤ maxLen ∧ Fits ks vs' := by
  cases vs with
  | nil => exact h.elim
  | cons v vs => obtain ⟨⟨x, rfl, hx⟩, h⟩ := h; exact ⟨x, vs, rfl, hx, h⟩
theorem fits_nil {vs : List Value} (h : Fits [] vs) : vs = [] := by
  cases vs with
  | nil => rfl
  | cons v vs => exact h.elim

/-- 'Flat P t ks': the type t is laid out as one cell of each kind of ks. -/
inductive Flat (P : Program) : TypeId → List LK → Prop where
  | int {t : TypeId} {k : IntKind} : P.underlying t = some (.int k) → Flat P t [.i k]
  | bool {t : TypeId} : P.underlying t = some .bool → Flat P t [.b]
  | string {t : TypeId} : P.underlying t = some .string → Flat P t [.s]
  | struct {t : TypeId} {fs : Array Field} {kss : List (List LK)} : P.underlying t = some (.struct fs) → P.cellsOf t = kss.flatten.length → kss.length = fs.size →
      (∀ (j : Nat) (f : Field) (ks : List LK), fs[j]? = some f → kss[j]? = some ks → Flat P f.type ks) →
      (∀ (j : Nat) (f : Field) (ks : List LK), fs[j]? = some f → kss[j]? = some ks → f.offset = (kss.take j).flatten.length ∧ P.cellsOf f.type = ks.length) → Flat P t kss.flatten

/-- The kinds, reckoned. -/
def flatK (P : Program) : Nat → TypeId → Option (List LK)
  | 0, _ => none
  | n + 1, t => match P.underlying t with
    | some (.int k) => some [.i k]
    | some .bool => some [.b]
    | some .string => some [.s]
    | some (.struct fs) => match fs.toList.mapM (fun f => flatK P n f.type) with
      | some kss => if P.cellsOf t = kss.flatten.length ∧ (List.range fs.size).all (fun j => match fs[j]?, kss[j]? with
          | some f, some ks => decide (f.offset = (kss.take j).flatten.length) && decide (P.cellsOf f.type = ks.length)
          | _, _ => false) = true then some kss.flatten else none
      | none => none
    | _ => none

theorem flat_of {P : Program} : ∀ {n : Nat} {t : TypeId} {ks : List LK}, flatK P n t = some ks → Flat P t ks := by
  intro n
  induction n with
  | zero => intro t ks h; simp [flatK] at h
  | succ n ih =>
    intro t ks h
    rw [flatK] at h
    split at h
    · rename_i hu; simp at h; subst h; exact .int hu
    · rename_i hu; simp at h; subst h; exact .bool hu
    · rename_i hu; simp at h; subst h; exact .string hu
    · rename_i fs hu
      split at h
      · rename_i kss hm
        split at h
        · rename_i hc
          simp only [Option.some.injEq] at h
          subst h
          obtain ⟨h1, h2⟩ := hc
          have hlen : kss.length = fs.size := by simpa using mapM_some_length hm
          refine .struct hu h1 hlen (fun j f ks hf hk => ?_) (fun j f ks hf hk => ?_)
          · have := mapM_some_get hm j f (by simpa using hf)
            exact ih (this.trans hk)
          · have hj : j < fs.size := (Array.getElem?_eq_some_iff.1 hf).1
            have := List.all_eq_true.1 h2 j (by simpa using hj)
            rw [hf, hk] at this
            simpa using this
        · cases h
      · cases h
    · cases h

theorem fits_tiles {kss : List (List LK)} : ∀ {cs : List Value}, cs.length = kss.flatten.length →
    (∀ (j : Nat) (ks : List LK), kss[j]? = some ks → Fits ks ((cs.drop (kss.take j).flatten.length).take ks.length)) → Fits kss.flatten cs := by
  induction kss with
  | nil =>
    intro cs hl _
    have : cs = [] := by simpa using hl
    subst this; trivial
  | cons ks kss ih =>
    intro cs hl h
    have h0 := h 0 ks rfl
    simp only [List.take_zero, List.flatten_nil, List.length_nil, List.drop_zero] at h0
    have : cs = cs.take ks.length ++ cs.drop ks.length := (List.take_append_drop _ _).symm
    rw [this, List.flatten_cons]
    refine h0.append (ih (by simp at hl ⊢; omega) fun j ks' hj => ?_)
    have := h (j + 1) ks' (by simpa using hj)
    simpa [List.drop_drop, Nat.add_comm] using this

section
variable {H : Type} {enc : TypeId × Value → H} {P : Program} {w : World} {base : Nat} {spare : Nat → Bool} {held : Bool}
theorem Flat.open {t : TypeId} {ks : List LK} (h : Flat P t ks) : ∀ {fuel : Nat} {cs : List Value} {x : DataW H × List MemPlace}, DataW.trod enc P w base spare held fuel t cs = some x → Fits ks cs := by
  induction h with
  | int hu => intro fuel cs x hx; obtain ⟨n, rfl, _, hw⟩ := DataW.trod_int hu hx; exact ⟨⟨n, rfl, hw⟩, trivial⟩
  | bool hu => intro fuel cs x hx; obtain ⟨n, rfl, _⟩ := DataW.trod_bool hu hx; exact ⟨⟨n, rfl⟩, trivial⟩
  | string hu => intro fuel cs x hx; obtain ⟨n, rfl, _, hw⟩ := DataW.trod_string hu hx; exact ⟨⟨n, rfl, hw⟩, trivial⟩
  | @struct t0 fs kss hu hc hl _ hf ih =>
    intro fuel cs x hx
    obtain ⟨xs, n, _, _, hlen, hxl, hg⟩ := DataW.trod_struct hu hx
    refine fits_tiles (hlen.trans hc) fun j ks hj => ?_
    obtain ⟨f, hfj⟩ : ∃ f, fs[j]? = some f := ⟨_, Array.getElem?_eq_getElem (by rw [← hl]; exact (List.getElem?_eq_some_iff.1 hj).1)⟩
    obtain ⟨ho, hk⟩ := hf j f ks hfj hj
    have h1 := hg j f hfj
    have hy : xs[j]? = some (xs[j]'(by rw [hxl, ← hl]; exact (List.getElem?_eq_some_iff.1 hj).1)) := List.getElem?_eq_getElem _
    rw [ho, hk, hy] at h1
    exact ih j f ks hfj hj h1

/-- An argument that is a struct, by value. -/
theorem open_flat {r : Reach} {b0 : Nat} {t : TypeId} {fs : Array Field} {ks : List LK} {v : Value} {d : DataW H} {p : List MemPlace} (hs : P.underlying t = some (.struct fs)) (hF : Flat P t ks)
    (hv : Value.okWide P w r b0 t v) (h : DataW.Trod enc P w base spare held t v d p) : ∃ cs : List Value, v = .agg cs.toArray ∧ Fits ks cs := by
  obtain ⟨cs, rfl, _⟩ := okWide_struct hs hv
  obtain ⟨fuel, hf⟩ := h
  exact ⟨cs.toList, by simp, hF.open hf⟩

/-- The cells of a slice that came in: nil, or len elements, each of them flat. -/
def SliceIn (w : World) (a : Option Addr) (len cap : Nat) (ks : List LK) (rows : List (List Value)) : Prop :=
  rows.length = len ∧ (∀ r ∈ rows, Fits ks r) ∧
  ((a = none ∧ len = 0 ∧ cap = 0) ∨ ∃ x : Addr, a = some x ∧ len ≤ cap ∧ cap ≤ maxLen ∧ ∀ i (r : List Value), rows[i]? = some r → ∀ j v, r[j]? = some v → w.cell? (x.add (i * ks.length + j)) = some v)

theorem open_flats {r : Reach} {b0 : Nat} {t e : TypeId} {ks : List LK} {v : Value} {d : DataW H} {p : List MemPlace} (ht : P.underlying t = some (.slice e)) (hF : Flat P e ks) (hC : P.cellsOf e = ks.length) (_ : 0 < ks.length)
    (hv : Value.okWide P w r b0 t v) (h : DataW.Trod enc P w base spare held t v d p) : ∃ a len cap rows, v = .slice a len cap ∧ SliceIn w a len cap ks rows ∧ ((d = .nil ∧ len = 0) ∨ ∃ el sp, d = .slice el sp ∧ el.length = len) := by
  obtain ⟨a, len, cap, rfl⟩ := okWide_slice ht hv
  obtain ⟨fuel, hf⟩ := h
  rcases open_slice ht hf with ⟨hcs, hd⟩ | ⟨x, len', cap', m, n, D, Pl, hcs, hb, hl, hm, hmm, hx, hi⟩
  · simp [Value.cells] at hcs
    obtain ⟨rfl, rfl, rfl⟩ := hcs
    exact ⟨_, _, _, [], rfl, ⟨rfl, by simp, .inl ⟨rfl, rfl, rfl⟩⟩, .inl ⟨(Prod.mk.inj hd).1, rfl⟩⟩
  · simp [Value.cells] at hcs
    obtain ⟨rfl, rfl, rfl⟩ := hcs
    have hlm : len ≤ m := by rw [hmm]; split <;> omega
    have hrow : ∀ i, i < len → ∃ cs', w.cells? base (x.add (i * P.cellsOf e)) (P.cellsOf e) = some cs' ∧ Fits ks cs' := fun i hil => by
      obtain ⟨cs', h1, h2⟩ := hi i (by omega)
      exact ⟨cs', h1, hF.open h2⟩
    have hch : ∃ g : Nat → List Value, ∀ i, i < len → w.cells? base (x.add (i * P.cellsOf e)) (P.cellsOf e) = some (g i) ∧ Fits ks (g i) :=
      ⟨fun i => if h : i < len then Classical.choose (hrow i h) else [], fun i h => by simp only [dif_pos h]; exact Classical.choose_spec (hrow i h)⟩
    obtain ⟨g, hg⟩ := hch
    refine ⟨_, _, _, (List.range len).map g, rfl, ⟨by simp, ?_, .inr ⟨x, rfl, hl, hm, ?_⟩⟩, .inr ⟨_, _, (Prod.mk.inj hx).1, by simp⟩⟩
    · intro r hr
      obtain ⟨i, hi', rfl⟩ := List.mem_map.1 hr
      exact (hg i (by simpa using hi')).2
    · intro i r hr j v hj
      have hil : i < len := by have := (List.getElem?_eq_some_iff.1 hr).1; simpa using this
      have hri : r = g i := by simp [hil] at hr; exact hr.symm
      obtain ⟨h1, h2⟩ := hg i hil
      obtain ⟨_, hcl, hat⟩ := World.cells?_some h1
      have hjl : j < ks.length := by rw [← h2.length, ← hri]; exact (List.getElem?_eq_some_iff.1 hj).1
      have := hat j (by omega)
      rw [← Go.Deep.add_add, ← hC, this, ← hri, hj]

/-- A slice's length, by its weight. -/
theorem flats_sized {ts : List TypeId} {ds : List (DataW H)} {j : Nat} {t e : TypeId} {d : DataW H} {len B : Nat} (hsz : (DataW.weightsEach P ts ds).all (· ≤ reachBytes) = true) (ht : ts[j]? = some t) (hd : ds[j]? = some d) (hu : P.underlying t = some (.slice e))
    (hB : P.bytesOf e = B) (h : (d = .nil ∧ len = 0) ∨ ∃ el sp, d = .slice el sp ∧ el.length = len) : len * B ≤ 140737488351232 := by
  rcases h with ⟨_, rfl⟩ | ⟨el, sp, rfl, rfl⟩
  · simp
  · have z := sized_slice hsz ht hd hu
    rw [hB] at z
    exact Nat.le_trans (Nat.mul_le_mul_right _ (Nat.le_add_right _ _)) z
end
end Go.Proofs.YtkpndnjnckaanaaDoor
