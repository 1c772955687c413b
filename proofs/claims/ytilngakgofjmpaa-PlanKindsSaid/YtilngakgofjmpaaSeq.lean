/- A range over a function, with the caller's own blocks named: what an iterator promises, and the statement's two laws (outermost; within a round). No condition. -/
import Derived.Test.YtilngakgofjmpaaJ1
namespace Go.Proofs.Ytilngakgofjmpaa
set_option linter.unusedVariables false
set_option linter.unusedSimpArgs false
open Go.RowKit Go.Shelf

theorem yield_any {m m' : Nat} {P : Program} {l : Nat} {args : Array Value} {W : World} {R : Ending → World → Prop} (h : YieldAt Fence.wide m P l args W R) : YieldAt Fence.wide m' P l args W R := by
  obtain ⟨fn, tmps, assign, body, hy, _, hr⟩ := h
  exact ⟨fn, tmps, assign, body, hy, trivial, fun c cs _ => hr c cs (room_wide _)⟩
theorem yield_in {m m' : Nat} {P : Program} {l : Nat} {args : Array Value} {W : World} {R : Ending → World → Prop} (k : Nat) (h : YieldAt Fence.wide m P l args W R) : YieldAt (Fence.wide.inRound k) m' P l args W R := yield_any (m' := m') h

/-- What a turn of the caller's own blocks T leaves: T', the caller's blocks behind it. -/
def Turn (T : Nat → Prop) (A B : World) (T' : Nat → Prop) : Prop := Only T A B ∧ ∀ i, T' i → T i ∨ A.heap.size ≤ i
/-- A predicate on what has been told, the caller's blocks and the world, that the iterator's own blocks do not touch. -/
def Apart {α : Type} (n : Nat) (J : List α → (Nat → Prop) → World → Prop) : Prop := ∀ s T A B S, J s T A → Only S A B → (∀ i, S i → ¬ T i ∧ n ≤ i) → J s T B

/-- The function gf at lb is an iterator that tells xs; of the blocks K it asks that they lie as they lie in w. -/
def SeqT {α : Type} (P : Program) (gf : Nat) (lb : Array Value) (enc : α → Array Value) (K : Nat → Prop) (xs : List α) (w : World) : Prop :=
  ∀ (l : Nat) (J Jx : List α → (Nat → Prop) → World → Prop) (W : World) (T0 : Nat → Prop),
    w.heap.size ≤ W.heap.size → KeepB K w W →
    (∀ s T A, J s T A → ∀ i, T i → ¬ K i ∧ i < A.heap.size) → Apart W.heap.size J → Apart W.heap.size Jx →
    (∀ s T x A, J s T A → (s ++ [x]) <+: xs → YieldAt Fence.wide 0 P l (enc x) A fun e B => ∃ T', Turn T A B T' ∧ ((e = .returned (.bool true) ∧ J (s ++ [x]) T' B) ∨ (e = .returned (.bool false) ∧ Jx (s ++ [x]) T' B))) →
    J [] T0 W →
    Calls P gf (#[.func (.yield l) #[] #[]] ++ lb) W fun e B => (∃ v, e = .returned v) ∧ ((∃ T, J xs T B) ∨ (∃ s T, s <+: xs ∧ Jx s T B))

/-- How the body of a round may be left. -/
def postT {α : Type} (I : List α → (Nat → Prop) → World → Prop) (Ix : Code → List α → (Nat → Prop) → World → Prop) (xs : List α) (T : Nat → Prop) (A : World) : Exit → Act → World → Prop
  | .normal, _, B => ∃ T', Turn T A B T' ∧ I xs T' B
  | .ret, _, B => ∃ T', Turn T A B T' ∧ Ix .ret xs T' B
  | .exit id, _, B => ∃ T', Turn T A B T' ∧ Ix (.exit id) xs T' B
  | .goto t, _, B => ∃ T', Turn T A B T' ∧ Ix (.goto t) xs T' B
  | .panic _, _, _ => False
  | .outgrown, _, _ => False

theorem Only.put1 (A : World) (l : Nat) (o : Obj) : Only (· = l) A (A.putObj l o) := (Only.refl (· = l) A).putObj (.inl rfl) o

section
variable {α : Type} {P : Program} {g : Operand} {ps : Array Tmp} {assign body : Code} {Q : Exit → Act → World → Prop} {a : Act} {w : World}

/-- One round of it. -/
theorem roundT {F : Fence} (hFf : F.inRound = Fence.wide.inRound) (hFn : ∀ f, F.fn f) {fn : FuncId} {enc : α → Array Value} {xs : List α} (I : List α → (Nat → Prop) → World → Prop) (Ix : Code → List α → (Nat → Prop) → World → Prop) {rec : LoopState → Option Code → Loop} {l D : Nat}
    (hrec : ∀ st pe, (rec st pe).state = st ∧ (rec st pe).assign = assign ∧ (rec st pe).body = body ∧ (rec st pe).params = ps ∧ (rec st pe).tmps = a.tmps ∧ (rec st pe).fn = fn)
    (hrec2 : ∀ st pe st' pe', { rec st pe with state := st', pending := pe' } = rec st' pe') (hps : ∀ x, (enc x).size = ps.size)
    {s : List α} {x : α} {T : Nat → Prop} {A : World} (hl : A.heap[l]? = some (.loop (rec .ready none))) (hTl : ¬ T l) (hI : ∀ B S, Only S A B → (∀ i, S i → i = l) → I s T B)
    (hframe : ∀ s T B, ¬ T l → I s T B → ∀ o, I s T (B.putObj l o)) (hframex : ∀ c s T B, ¬ T l → Ix c s T B → ∀ o, Ix c s T (B.putObj l o))
    (hround : assign.wpIn (Fence.wide.inRound l) 0 P (Exit.then (fun a' A' => Only (fun _ => False) A A' ∧ ∀ A'', I s T A'' → Only (· = l) A' A'' → (∃ r, A''.heap[l]? = some (.loop r)) → body.wpIn (Fence.wide.inRound l) 0 P (postT I Ix (s ++ [x]) T A'') a' A'') (fun _ _ _ => False))
      { tmps := (ps.zip (enc x)).foldl (fun t (p, v) => t.setIfInBounds p v) a.tmps, defers := [] } A)
    (hIn : ∀ A', Only (fun _ => False) A A' → I s T A') :
    YieldAt F 0 P l (enc x) A fun e B => ∃ T', Turn (fun i => T i ∨ i = l) A B T' ∧
      ((e = .returned (.bool true) ∧ ∃ Tc, (T' = fun i => Tc i ∨ i = l) ∧ Turn (fun i => T i ∨ i = l) A B Tc ∧ ¬ Tc l ∧ I (s ++ [x]) Tc B ∧ B.heap[l]? = some (.loop (rec .ready none))) ∨
       (e = .returned (.bool false) ∧ ∃ Tc c, (T' = fun i => Tc i ∨ i = l) ∧ Turn (fun i => T i ∨ i = l) A B Tc ∧ ¬ Tc l ∧ Ix c (s ++ [x]) Tc B ∧ B.heap[l]? = some (.loop (rec .done (some c))))) := by
  have hll : l < A.heap.size := (Array.getElem?_eq_some_iff.1 hl).1
  have hy := run_yield (P := P) (args := enc x) hl (by rw [(hrec _ _).2.2.2.1]; exact hps x)
  rw [(hrec _ _).2.2.2.1, (hrec _ _).2.2.2.2.1, (hrec _ _).2.1, (hrec _ _).2.2.1] at hy
  refine ⟨_, _, _, _, hy, roundIn_of_wpIn (hFn _) ?_⟩
  rw [hFf]
  refine wpIn_mono hround ?_
  intro e a' A' hK
  cases e with
  | normal =>
    obtain ⟨o1, hb⟩ := hK
    have hl1 : A'.heap[l]? = some (.loop (rec .ready none)) := (o1.block l hll id).trans hl
    refine ⟨_, run_beginRound hl1 (hrec _ _).1, ?_⟩
    obtain ⟨A'', hA''⟩ : ∃ A'', A'.putObj l (.loop { rec .ready none with state := .busy }) = A'' := ⟨_, rfl⟩
    rw [hA'']
    have hll1 : l < A'.heap.size := Nat.lt_of_lt_of_le hll o1.size
    have hl2 : A''.heap[l]? = some (.loop { rec .ready none with state := .busy }) := by rw [← hA'']; exact World.putObj_heap_same hll1
    have o2 : Only (· = l) A' A'' := by rw [← hA'']; exact Only.put1 _ _ _
    have o12 : Only (· = l) A A'' := (Only.of_none o1).trans o2
    refine wpIn_mono (hb A'' (hI A'' _ o12 (fun i hi => hi)) o2 ⟨_, hl2⟩) ?_
    have fin : ∀ (jump : Option Code) (W3 : World) (T' : Nat → Prop), Turn T A'' W3 T' →
        (Instr.endRound l jump).run P W3 = .ok (.bool jump.isNone) (W3.putObj l (.loop (rec (if jump.isNone then .ready else .done) jump))) ∧
        Turn (fun i => T i ∨ i = l) A (W3.putObj l (.loop (rec (if jump.isNone then .ready else .done) jump))) T' ∧ ¬ T' l ∧
        (W3.putObj l (.loop (rec (if jump.isNone then .ready else .done) jump))).heap[l]? = some (.loop (rec (if jump.isNone then .ready else .done) jump)) := by
      intro jump W3 T' ht
      have hl3 : W3.heap[l]? = some (.loop { rec .ready none with state := .busy }) := (ht.1.block l (Array.getElem?_eq_some_iff.1 hl2).1 hTl).trans hl2
      have hr := run_endRound (P := P) jump hl3
      have e1 : ∀ st pe, { ({ rec .ready none with state := .busy } : Loop) with state := st, pending := pe } = rec st pe := fun st pe => hrec2 _ _ st pe
      simp only [e1] at hr
      have hsz := o12.size
      refine ⟨hr, ⟨?_, fun i hi => ?_⟩, fun h => ?_, World.putObj_heap_same (Array.getElem?_eq_some_iff.1 hl3).1⟩
      · exact ((o12.mono fun i _ hi => .inr hi).trans (ht.1.mono fun i _ hi => .inl hi)).putObj (.inl (.inr rfl)) _
      · rcases ht.2 i hi with h | h
        · exact .inl (.inl h)
        · exact .inr (Nat.le_trans hsz h)
      · rcases ht.2 l h with h | h
        · exact hTl h
        · omega
    have tt : ∀ {B : World} {T' : Nat → Prop}, Turn (fun i => T i ∨ i = l) A B T' → Turn (fun i => T i ∨ i = l) A B (fun i => T' i ∨ i = l) := fun h => ⟨h.1, fun i hi => hi.elim (h.2 i) (fun e => .inl (.inr e))⟩
    intro e a3 W3 hp
    cases e with
    | normal =>
      obtain ⟨T', ht, hi3⟩ := hp
      obtain ⟨hr, h1, h2, h3⟩ := fin none W3 T' ht
      exact ⟨_, _, hr, _, tt h1, .inl ⟨rfl, T', rfl, h1, h2, hframe _ _ _ h2 hi3 _, h3⟩⟩
    | ret =>
      obtain ⟨T', ht, hi3⟩ := hp
      obtain ⟨hr, h1, h2, h3⟩ := fin (some .ret) W3 T' ht
      exact ⟨_, _, hr, _, tt h1, .inr ⟨rfl, T', _, rfl, h1, h2, hframex _ _ _ _ h2 hi3 _, h3⟩⟩
    | exit id =>
      obtain ⟨T', ht, hi3⟩ := hp
      obtain ⟨hr, h1, h2, h3⟩ := fin (some (.exit id)) W3 T' ht
      exact ⟨_, _, hr, _, tt h1, .inr ⟨rfl, T', _, rfl, h1, h2, hframex _ _ _ _ h2 hi3 _, h3⟩⟩
    | goto t =>
      obtain ⟨T', ht, hi3⟩ := hp
      obtain ⟨hr, h1, h2, h3⟩ := fin (some (.goto t)) W3 T' ht
      exact ⟨_, _, hr, _, tt h1, .inr ⟨rfl, T', _, rfl, h1, h2, hframex _ _ _ _ h2 hi3 _, h3⟩⟩
    | panic ch => exact hp.elim
    | outgrown => exact hp.elim
  | exit id => exact hK.elim
  | goto t => exact hK.elim
  | ret => exact hK.elim
  | panic chain => exact hK.elim
  | outgrown => exact hK.elim

/-- The statement, outermost: two blocks of book-keeping are laid. -/
theorem rangeT {gf : Nat} {lb : Array Value} (hg : a.eval g = .func (.func gf) #[] lb) (eg : Enters P gf) {enc : α → Array Value} {K : Nat → Prop} {xs : List α} {w0 : World} (hseq : SeqT P gf lb enc K xs w0) (hps : ∀ x, (enc x).size = ps.size)
    (hw0 : w0.heap.size ≤ w.heap.size) (hK0 : KeepB K w0 w) (hK : ∀ i, K i → i < w.heap.size)
    (I : List α → (Nat → Prop) → World → Prop) (Ix : Code → List α → (Nat → Prop) → World → Prop) (T0 : Nat → Prop)
    (hT : ∀ s T A, I s T A → ∀ i, T i → ¬ K i ∧ i < A.heap.size) (hI : Apart w.heap.size I) (hIx : ∀ c, Apart w.heap.size (Ix c)) (h0 : I [] T0 w)
    (hround : ∀ l s T x A, w.heap.size < l → w.heap.size ≤ A.heap.size → (∃ r, A.heap[l]? = some (.loop r)) → ¬ T l → I s T A → (s ++ [x]) <+: xs →
      assign.wpIn (Fence.wide.inRound l) 0 P (Exit.then (fun a' A' => Only (fun _ => False) A A' ∧ ∀ A'', I s T A'' → Only (· = l) A' A'' → (∃ r, A''.heap[l]? = some (.loop r)) → body.wpIn (Fence.wide.inRound l) 0 P (postT I Ix (s ++ [x]) T A'') a' A'') (fun _ _ _ => False))
        { tmps := (ps.zip (enc x)).foldl (fun t (p, v) => t.setIfInBounds p v) a.tmps, defers := [] } A)
    (hdone : ∀ D T B, w.heap.size ≤ D → I xs T B → ¬ T D → B.heap[D]? = some (.deferred (some [])) → Q .normal { a with defers := { target := .collected D, args := #[] } :: a.defers } B)
    (hstop : ∀ D c s T B, w.heap.size ≤ D → s <+: xs → Ix c s T B → ¬ T D → B.heap[D]? = some (.deferred (some [])) → c.wpIn Fence.wide 0 P Q { a with defers := { target := .collected D, args := #[] } :: a.defers } B) :
    (Code.rangeFunc g ps assign body).wpIn Fence.wide 0 P Q a w := by
  refine wpIn_rangeFunc ?_
  intro fn hfn
  show ∃ l mark w₁ d w₁' f args w₂, (Instr.enterLoop fn a.tmps ps assign body none).run P w = .ok (l, mark) w₁ ∧ _
  obtain ⟨rec, hrec⟩ : ∃ rec : LoopState → Option Code → Loop, rec = fun st pe => { state := st, pending := pe, fn, tmps := a.tmps, params := ps, assign, body, defers := w.heap.size } := ⟨_, rfl⟩
  obtain ⟨D, hD⟩ : ∃ D, w.heap.size = D := ⟨_, rfl⟩
  obtain ⟨W1, hW1⟩ : ∃ W1, (w.alloc (.deferred (some []))).alloc (.loop (rec .ready none)) = W1 := ⟨_, rfl⟩
  have hL1 : W1.heap[D + 1]? = some (.loop (rec .ready none)) := by
    rw [← hW1, ← hD]; have := World.alloc_heap_new (w.alloc (.deferred (some []))) (.loop (rec .ready none)); rwa [World.size_alloc] at this
  have hK1 : W1.heap[D]? = some (.deferred (some [])) := by
    rw [← hW1, ← hD]; exact (Below.heap_alloc _ _ _ (by simp)).trans (World.alloc_heap_new w _)
  have hsz : W1.heap.size = D + 2 := by rw [← hW1, ← hD]; simp
  have o1 : Only (fun _ => False) w W1 := by rw [← hW1]; exact ((Only.refl _ w).alloc _).alloc _
  have hIa : I [] T0 W1 := hI [] T0 w W1 _ h0 o1 (fun i h => h.elim)
  have hT0 : ∀ i, T0 i → i < D := fun i hi => by rw [← hD]; exact (hT [] T0 w h0 i hi).2
  refine ⟨D + 1, [{ target := .collected D, args := #[] }], W1, { target := .fn (.func gf) lb, args := #[.func (.yield (D + 1)) #[] #[]] }, W1, gf, #[.func (.yield (D + 1)) #[] #[]] ++ lb, W1, ?_, ?_, ?_, ?_, (fun h => by cases h), ?_⟩
  · rw [← hW1, hrec, ← hD]; exact run_enterLoop_outer _ _ _ _ _
  · simp only [resolve, hg]
    simp [go_sem]
  · intro f' _; trivial
  · simp [invoke, go_sem, eg _ _]
  · refine callsIn_wide.2 ?_
    refine (hseq (D + 1)
      (fun s T A => ∃ Tc, (T = fun i => Tc i ∨ i = D + 1) ∧ ¬ Tc D ∧ ¬ Tc (D + 1) ∧ D + 2 ≤ A.heap.size ∧ I s Tc A ∧ A.heap[D + 1]? = some (.loop (rec .ready none)) ∧ A.heap[D]? = some (.deferred (some [])))
      (fun s T A => ∃ Tc c, (T = fun i => Tc i ∨ i = D + 1) ∧ ¬ Tc D ∧ ¬ Tc (D + 1) ∧ D + 2 ≤ A.heap.size ∧ Ix c s Tc A ∧ A.heap[D + 1]? = some (.loop (rec .done (some c))) ∧ A.heap[D]? = some (.deferred (some [])))
      W1 (fun i => T0 i ∨ i = D + 1) (Nat.le_trans hw0 o1.size) (hK0.trans fun i hi => o1.block i (hK i hi) id) ?_ ?_ ?_ ?_ ⟨T0, rfl, fun h => by have := hT0 _ h; omega, fun h => by have := hT0 _ h; omega, by omega, hIa, hL1, hK1⟩).mono ?_
    · rintro s T A ⟨Tc, rfl, _, _, hle, hi, _, _⟩ i (h | h)
      · exact hT _ _ _ hi i h
      · subst h; exact ⟨fun h => by have := hK _ h; omega, by omega⟩
    · rintro s T A B S ⟨Tc, rfl, h1, h2, hle, hi, hl, hd⟩ ho hS
      refine ⟨Tc, rfl, h1, h2, Nat.le_trans hle ho.size, hI _ _ _ _ _ hi ho (fun i h => ⟨fun h' => (hS i h).1 (.inl h'), by have := (hS i h).2; omega⟩), ?_, ?_⟩
      · exact (ho.block _ (by omega) (fun h => (hS _ h).1 (.inr rfl))).trans hl
      · exact (ho.block _ (by omega) (fun h => by have := (hS _ h).2; omega)).trans hd
    · rintro s T A B S ⟨Tc, c, rfl, h1, h2, hle, hi, hl, hd⟩ ho hS
      refine ⟨Tc, c, rfl, h1, h2, Nat.le_trans hle ho.size, hIx c _ _ _ _ _ hi ho (fun i h => ⟨fun h' => (hS i h).1 (.inl h'), by have := (hS i h).2; omega⟩), ?_, ?_⟩
      · exact (ho.block _ (by omega) (fun h => (hS _ h).1 (.inr rfl))).trans hl
      · exact (ho.block _ (by omega) (fun h => by have := (hS _ h).2; omega)).trans hd
    · rintro s T x A ⟨Tc, rfl, h1, h2, hle, hi, hl, hd⟩ hpre
      have hfr : ∀ (l : Nat), D ≤ l → ∀ s T B, ¬ T l → I s T B → ∀ o, I s T (B.putObj l o) := fun l hl s T B hT hB o => hI _ _ _ _ _ hB (Only.put1 B l o) (fun i e => by subst e; exact ⟨hT, by omega⟩)
      have hfrx : ∀ (l : Nat), D ≤ l → ∀ c s T B, ¬ T l → Ix c s T B → ∀ o, Ix c s T (B.putObj l o) := fun l hl c s T B hT hB o => hIx c _ _ _ _ _ hB (Only.put1 B l o) (fun i e => by subst e; exact ⟨hT, by omega⟩)
      refine YieldAt.mono (roundT (F := Fence.wide) (xs := xs) rfl (fun _ => trivial) (ps := ps) (assign := assign) (body := body) (a := a) (fn := fn) (D := D) I Ix (rec := rec) (l := D + 1) (fun st pe => by rw [hrec]; exact ⟨rfl, rfl, rfl, rfl, rfl, rfl⟩) (fun _ _ _ _ => by rw [hrec]) hps hl h2
        (fun B S ho hS => hI _ _ _ _ _ hi ho (fun i h => by rw [hS i h]; exact ⟨h2, by omega⟩)) (hfr _ (by omega)) (hfrx _ (by omega))
        (hround (D + 1) s Tc x A (by omega) (by omega) ⟨_, hl⟩ h2 hi hpre) (fun A' ho => hI _ _ _ _ _ hi ho (fun i h => h.elim))) ?_
      rintro e B ⟨T', ht, h⟩
      refine ⟨T', ht, ?_⟩
      rcases h with ⟨rfl, Tc', rfl, ht', h3, h4, h5⟩ | ⟨rfl, Tc', c, rfl, ht', h3, h4, h5⟩
      · refine .inl ⟨rfl, Tc', rfl, fun h => ?_, h3, Nat.le_trans hle ht'.1.size, h4, h5, (ht'.1.block D (by omega) (fun h => h.elim h1 (by omega))).trans hd⟩
        rcases ht'.2 D h with h6 | h6
        · exact h6.elim h1 (by omega)
        · omega
      · refine .inr ⟨rfl, Tc', c, rfl, fun h => ?_, h3, Nat.le_trans hle ht'.1.size, h4, h5, (ht'.1.block D (by omega) (fun h => h.elim h1 (by omega))).trans hd⟩
        rcases ht'.2 D h with h6 | h6
        · exact h6.elim h1 (by omega)
        · omega
    · rintro e W2 ⟨⟨v, rfl⟩, (⟨T, Tc, rfl, h1, h2, hle, hi, hl, hd⟩ | ⟨s, T, hs, Tc, c, rfl, h1, h2, hle, hi, hl, hd⟩)⟩
      · refine ⟨none, _, by have := run_endLoop (P := P) hl (by rw [hrec]; simp); rw [hrec] at this; exact this, ?_⟩
        exact hdone D Tc _ (by omega) (hI _ _ _ _ _ hi (Only.put1 _ _ _) (fun i e => by subst e; exact ⟨h2, by omega⟩)) h1 ((World.putObj_heap_other (by omega)).trans hd)
      · refine ⟨some c, _, by have := run_endLoop (P := P) hl (by rw [hrec]; simp); rw [hrec] at this; exact this, ?_⟩
        exact hstop D c s Tc _ (by omega) hs (hIx c _ _ _ _ _ hi (Only.put1 _ _ _) (fun i e => by subst e; exact ⟨h2, by omega⟩)) h1 ((World.putObj_heap_other (by omega)).trans hd)

/-- The statement within a round of loop l₀: one block is laid, no mark. -/
theorem rangeN {l₀ : Nat} (hl₀ : ∃ r₀, w.heap[l₀]? = some (.loop r₀)) {gf : Nat} {lb : Array Value} (hg : a.eval g = .func (.func gf) #[] lb) (eg : Enters P gf) {enc : α → Array Value} {K : Nat → Prop} {xs : List α} {w0 : World} (hseq : SeqT P gf lb enc K xs w0) (hps : ∀ x, (enc x).size = ps.size)
    (hw0 : w0.heap.size ≤ w.heap.size) (hK0 : KeepB K w0 w) (hK : ∀ i, K i → i < w.heap.size)
    (I : List α → (Nat → Prop) → World → Prop) (Ix : Code → List α → (Nat → Prop) → World → Prop) (T0 : Nat → Prop)
    (hT : ∀ s T A, I s T A → ∀ i, T i → ¬ K i ∧ i < A.heap.size) (hI : Apart w.heap.size I) (hIx : ∀ c, Apart w.heap.size (Ix c)) (h0 : I [] T0 w)
    (hround : ∀ l s T x A, w.heap.size ≤ l → w.heap.size ≤ A.heap.size → (∃ r, A.heap[l]? = some (.loop r)) → ¬ T l → I s T A → (s ++ [x]) <+: xs →
      assign.wpIn (Fence.wide.inRound l) 0 P (Exit.then (fun a' A' => Only (fun _ => False) A A' ∧ ∀ A'', I s T A'' → Only (· = l) A' A'' → (∃ r, A''.heap[l]? = some (.loop r)) → body.wpIn (Fence.wide.inRound l) 0 P (postT I Ix (s ++ [x]) T A'') a' A'') (fun _ _ _ => False))
        { tmps := (ps.zip (enc x)).foldl (fun t (p, v) => t.setIfInBounds p v) a.tmps, defers := [] } A)
    (hdone : ∀ T B, I xs T B → Q .normal a B)
    (hstop : ∀ c s T B, s <+: xs → Ix c s T B → c.wpIn (Fence.wide.inRound l₀) 0 P Q a B) :
    (Code.rangeFunc g ps assign body).wpIn (Fence.wide.inRound l₀) 0 P Q a w := by
  refine wpIn_rangeFunc ?_
  intro fn hfn
  obtain ⟨r₀, hl₀⟩ := hl₀
  show ∃ l mark w₁ d w₁' f args w₂, (Instr.enterLoop fn a.tmps ps assign body (some l₀)).run P w = .ok (l, mark) w₁ ∧ _
  obtain ⟨rec, hrec⟩ : ∃ rec : LoopState → Option Code → Loop, rec = fun st pe => { state := st, pending := pe, fn, tmps := a.tmps, params := ps, assign, body, defers := r₀.defers } := ⟨_, rfl⟩
  obtain ⟨D, hD⟩ : ∃ D, w.heap.size = D := ⟨_, rfl⟩
  obtain ⟨W1, hW1⟩ : ∃ W1, w.alloc (.loop (rec .ready none)) = W1 := ⟨_, rfl⟩
  have hL1 : W1.heap[D]? = some (.loop (rec .ready none)) := by rw [← hW1, ← hD]; exact World.alloc_heap_new w _
  have hsz : W1.heap.size = D + 1 := by rw [← hW1, ← hD]; simp
  have o1 : Only (fun _ => False) w W1 := by rw [← hW1]; exact (Only.refl _ w).alloc _
  have hIa : I [] T0 W1 := hI [] T0 w W1 _ h0 o1 (fun i h => h.elim)
  have hT0 : ∀ i, T0 i → i < D := fun i hi => by rw [← hD]; exact (hT [] T0 w h0 i hi).2
  refine ⟨D, [], W1, { target := .fn (.func gf) lb, args := #[.func (.yield D) #[] #[]] }, W1, gf, #[.func (.yield D) #[] #[]] ++ lb, W1, ?_, ?_, ?_, ?_, (fun h => by cases h), ?_⟩
  · rw [← hW1, hrec, ← hD]; exact run_enterLoop_inner hl₀ _ _ _ _ _
  · simp only [resolve, hg]
    simp [go_sem]
  · intro f' _; trivial
  · simp [invoke, go_sem, eg _ _]
  · refine CallsIn.inRound l₀ (callsIn_wide.2 ?_)
    refine (hseq D
      (fun s T A => ∃ Tc, (T = fun i => Tc i ∨ i = D) ∧ ¬ Tc D ∧ D + 1 ≤ A.heap.size ∧ I s Tc A ∧ A.heap[D]? = some (.loop (rec .ready none)))
      (fun s T A => ∃ Tc c, (T = fun i => Tc i ∨ i = D) ∧ ¬ Tc D ∧ D + 1 ≤ A.heap.size ∧ Ix c s Tc A ∧ A.heap[D]? = some (.loop (rec .done (some c))))
      W1 (fun i => T0 i ∨ i = D) (Nat.le_trans hw0 o1.size) (hK0.trans fun i hi => o1.block i (hK i hi) id) ?_ ?_ ?_ ?_ ⟨T0, rfl, fun h => by have := hT0 _ h; omega, by omega, hIa, hL1⟩).mono ?_
    · rintro s T A ⟨Tc, rfl, _, hle, hi, _⟩ i (h | h)
      · exact hT _ _ _ hi i h
      · subst h; exact ⟨fun h => by have := hK _ h; omega, by omega⟩
    · rintro s T A B S ⟨Tc, rfl, h2, hle, hi, hl⟩ ho hS
      refine ⟨Tc, rfl, h2, Nat.le_trans hle ho.size, hI _ _ _ _ _ hi ho (fun i h => ⟨fun h' => (hS i h).1 (.inl h'), by have := (hS i h).2; omega⟩), ?_⟩
      exact (ho.block _ (by omega) (fun h => (hS _ h).1 (.inr rfl))).trans hl
    · rintro s T A B S ⟨Tc, c, rfl, h2, hle, hi, hl⟩ ho hS
      refine ⟨Tc, c, rfl, h2, Nat.le_trans hle ho.size, hIx c _ _ _ _ _ hi ho (fun i h => ⟨fun h' => (hS i h).1 (.inl h'), by have := (hS i h).2; omega⟩), ?_⟩
      exact (ho.block _ (by omega) (fun h => (hS _ h).1 (.inr rfl))).trans hl
    · rintro s T x A ⟨Tc, rfl, h2, hle, hi, hl⟩ hpre
      have hfr : ∀ s T B, ¬ T D → I s T B → ∀ o, I s T (B.putObj D o) := fun s T B hT hB o => hI _ _ _ _ _ hB (Only.put1 B D o) (fun i e => by subst e; exact ⟨hT, by omega⟩)
      have hfrx : ∀ c s T B, ¬ T D → Ix c s T B → ∀ o, Ix c s T (B.putObj D o) := fun c s T B hT hB o => hIx c _ _ _ _ _ hB (Only.put1 B D o) (fun i e => by subst e; exact ⟨hT, by omega⟩)
      refine YieldAt.mono (roundT (F := Fence.wide) (xs := xs) rfl (fun _ => trivial) (ps := ps) (assign := assign) (body := body) (a := a) (fn := fn) (D := D) I Ix (rec := rec) (l := D) (fun st pe => by rw [hrec]; exact ⟨rfl, rfl, rfl, rfl, rfl, rfl⟩) (fun _ _ _ _ => by rw [hrec]) hps hl h2
        (fun B S ho hS => hI _ _ _ _ _ hi ho (fun i h => by rw [hS i h]; exact ⟨h2, by omega⟩)) hfr hfrx
        (hround D s Tc x A (by omega) (by omega) ⟨_, hl⟩ h2 hi hpre) (fun A' ho => hI _ _ _ _ _ hi ho (fun i h => h.elim))) ?_
      rintro e B ⟨T', ht, h⟩
      refine ⟨T', ht, ?_⟩
      rcases h with ⟨rfl, Tc', rfl, ht', h3, h4, h5⟩ | ⟨rfl, Tc', c, rfl, ht', h3, h4, h5⟩
      · exact .inl ⟨rfl, Tc', rfl, h3, Nat.le_trans hle ht'.1.size, h4, h5⟩
      · exact .inr ⟨rfl, Tc', c, rfl, h3, Nat.le_trans hle ht'.1.size, h4, h5⟩
    · rintro e W2 ⟨⟨v, rfl⟩, (⟨T, Tc, rfl, h2, hle, hi, hl⟩ | ⟨s, T, hs, Tc, c, rfl, h2, hle, hi, hl⟩)⟩
      · refine ⟨none, _, by have := run_endLoop (P := P) hl (by rw [hrec]; simp); rw [hrec] at this; exact this, ?_⟩
        exact hdone Tc _ (hI _ _ _ _ _ hi (Only.put1 _ _ _) (fun i e => by subst e; exact ⟨h2, by omega⟩))
      · refine ⟨some c, _, by have := run_endLoop (P := P) hl (by rw [hrec]; simp); rw [hrec] at this; exact this, ?_⟩
        exact hstop c s Tc _ hs (hIx c _ _ _ _ _ hi (Only.put1 _ _ _) (fun i e => by subst e; exact ⟨h2, by omega⟩))
end
end Go.Proofs.Ytilngakgofjmpaa
