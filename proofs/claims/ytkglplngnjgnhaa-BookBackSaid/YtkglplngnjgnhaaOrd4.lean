/- Slots: what a store into a link or a row does to an arena. No condition. -/
import Derived.Test.YtkglplngnjgnhaaOrd1
namespace Go.Proofs.Ytkglplngnjgnhaa
set_option linter.unusedVariables false
set_option linter.unusedSimpArgs false
namespace Od
open Go.RowKit

/-- A thing of five cells is written. -/
def put5 (w : World) (g o : Nat) (a0 a1 a2 a3 a4 : Value) : World := ((((w.setCell ⟨g, o, none⟩ a0).setCell ⟨g, o + 1, none⟩ a1).setCell ⟨g, o + 2, none⟩ a2).setCell ⟨g, o + 3, none⟩ a3).setCell ⟨g, o + 4, none⟩ a4
theorem ArAt.set_th {w : World} {b : Nat} {A : Ar} (h : ArAt w b A) {i : Nat} (hi : i < A.room) (a0 a1 a2 a3 a4 : Value) : ArAt (put5 w A.gl (i * 8) a0 a1 a2 a3 a4) b { A with th := upd A.th i (.agg #[a0, a1, a2, a3, a4]) } := by
  have farb : ∀ {g o : Nat} {v : Value}, Cell w g o v → A.gl ≠ g → Cell (put5 w A.gl (i * 8) a0 a1 a2 a3 a4) g o v := fun hc hg => ((((hc.far (blk_ne hg) _).far (blk_ne hg) _).far (blk_ne hg) _).far (blk_ne hg) _).far (blk_ne hg) _
  have faro : ∀ {o : Nat} {v : Value}, Cell w A.gl o v → (o < i * 8 ∨ i * 8 + 5 ≤ o) → Cell (put5 w A.gl (i * 8) a0 a1 a2 a3 a4) A.gl o v := fun hc hg => ((((hc.far (off_ne (by omega)) _).far (off_ne (by omega)) _).far (off_ne (by omega)) _).far (off_ne (by omega)) _).far (off_ne (by omega)) _
  have hs : (A.th i).cells.size = 5 := h.tc i hi
  have old : ∀ c, c < 5 → ∃ u, Cell w A.gl (i * 8 + c) u := fun c hc => ⟨_, h.l0 i hi c _ (Array.getElem?_eq_getElem (by rw [hs]; exact hc))⟩
  refine ⟨farb h.c0 (Ne.symm h.n1), farb h.c1 (Ne.symm h.n1), farb h.c2 (Ne.symm h.n1), fun k hk c u hu => ?_, fun k hk => faro (h.l1 k hk) (by omega), fun k hk => faro (h.l2 k hk) (by omega), fun k hk => faro (h.l3 k hk) (by omega), fun k hk => farb (h.r0 k hk) h.n4, fun k hk => farb (h.r1 k hk) h.n4, fun k hk => farb (h.r2 k hk) h.n4,
    ?_, by simpa [put5, World.setCell] using h.lr, h.n1, h.n2, h.n3, h.n4, h.n5, h.n6, h.small, fun k hk => ?_⟩
  · by_cases e : k = i
    · subst e
      simp only [upd_same, Value.cells] at hu
      obtain ⟨u0, o0⟩ := old 0 (by decide)
      obtain ⟨u1, o1⟩ := old 1 (by decide)
      obtain ⟨u2, o2⟩ := old 2 (by decide)
      obtain ⟨u3, o3⟩ := old 3 (by decide)
      obtain ⟨u4, o4⟩ := old 4 (by decide)
      match c, hu with
      | 0, hu => cases hu; exact ((((o0.set _).far (off_ne (by omega)) _).far (off_ne (by omega)) _).far (off_ne (by omega)) _).far (off_ne (by omega)) _
      | 1, hu => cases hu; exact ((((o1.far (off_ne (by omega)) _).set _).far (off_ne (by omega)) _).far (off_ne (by omega)) _).far (off_ne (by omega)) _
      | 2, hu => cases hu; exact ((((o2.far (off_ne (by omega)) _).far (off_ne (by omega)) _).set _).far (off_ne (by omega)) _).far (off_ne (by omega)) _
      | 3, hu => cases hu; exact ((((o3.far (off_ne (by omega)) _).far (off_ne (by omega)) _).far (off_ne (by omega)) _).set _).far (off_ne (by omega)) _
      | 4, hu => cases hu; exact ((((o4.far (off_ne (by omega)) _).far (off_ne (by omega)) _).far (off_ne (by omega)) _).far (off_ne (by omega)) _).set _
      | c + 5, hu => simp at hu
    · simp only [upd_other e] at hu
      have hc : c < 5 := by rw [← h.tc k hk]; exact (Array.getElem?_eq_some_iff.1 hu).1
      exact faro (h.l0 k hk c u hu) (by omega)
  · unfold put5
    rw [Below.heap_setCell _ _ _ A.gf (Ne.symm h.n5), Below.heap_setCell _ _ _ A.gf (Ne.symm h.n5), Below.heap_setCell _ _ _ A.gf (Ne.symm h.n5), Below.heap_setCell _ _ _ A.gf (Ne.symm h.n5), Below.heap_setCell _ _ _ A.gf (Ne.symm h.n5)]
    exact h.f
  · by_cases e : k = i
    · subst e; simp only [upd_same]; rfl
    · simp only [upd_other e]; exact h.tc k hk

theorem ArAt.set_ro {w : World} {b : Nat} {A : Ar} (h : ArAt w b A) {i : Nat} (hi : i < A.room) (x : Int) : ArAt (w.setCell ⟨A.gl, i * 8 + 5, none⟩ (.int .i64 x)) b { A with ro := upd A.ro i x } := by
  have farb : ∀ {g o : Nat} {v : Value}, Cell w g o v → A.gl ≠ g → Cell (w.setCell ⟨A.gl, i * 8 + 5, none⟩ (.int .i64 x)) g o v := fun hc hg => hc.far (blk_ne hg) _
  have faro : ∀ {o : Nat} {v : Value}, Cell w A.gl o v → i * 8 + 5 ≠ o → Cell (w.setCell ⟨A.gl, i * 8 + 5, none⟩ (.int .i64 x)) A.gl o v := fun hc hg => hc.far (off_ne hg) _
  refine ⟨farb h.c0 (Ne.symm h.n1), farb h.c1 (Ne.symm h.n1), farb h.c2 (Ne.symm h.n1), fun k hk c u hu => faro (h.l0 k hk c u hu) (by have hc : c < 5 := by { rw [← h.tc k hk]; exact (Array.getElem?_eq_some_iff.1 hu).1 }; omega), fun k hk => ?_, fun k hk => faro (h.l2 k hk) (by omega), fun k hk => faro (h.l3 k hk) (by omega), fun k hk => farb (h.r0 k hk) h.n4, fun k hk => farb (h.r1 k hk) h.n4, fun k hk => farb (h.r2 k hk) h.n4,
    (Below.heap_setCell w _ _ A.gf (Ne.symm h.n5)).trans h.f, by simpa [World.setCell] using h.lr, h.n1, h.n2, h.n3, h.n4, h.n5, h.n6, h.small, h.tc⟩
  by_cases e : k = i
  · subst e; simp only [upd_same]; exact (h.l1 k hk).set _
  · simp only [upd_other e]; exact faro (h.l1 k hk) (by omega)

theorem ArAt.set_ah {w : World} {b : Nat} {A : Ar} (h : ArAt w b A) {i : Nat} (hi : i < A.room) (x : Int) : ArAt (w.setCell ⟨A.gl, i * 8 + 6, none⟩ (.int .i64 x)) b { A with ah := upd A.ah i x } := by
  have farb : ∀ {g o : Nat} {v : Value}, Cell w g o v → A.gl ≠ g → Cell (w.setCell ⟨A.gl, i * 8 + 6, none⟩ (.int .i64 x)) g o v := fun hc hg => hc.far (blk_ne hg) _
  have faro : ∀ {o : Nat} {v : Value}, Cell w A.gl o v → i * 8 + 6 ≠ o → Cell (w.setCell ⟨A.gl, i * 8 + 6, none⟩ (.int .i64 x)) A.gl o v := fun hc hg => hc.far (off_ne hg) _
  refine ⟨farb h.c0 (Ne.symm h.n1), farb h.c1 (Ne.symm h.n1), farb h.c2 (Ne.symm h.n1), fun k hk c u hu => faro (h.l0 k hk c u hu) (by have hc : c < 5 := by { rw [← h.tc k hk]; exact (Array.getElem?_eq_some_iff.1 hu).1 }; omega), fun k hk => faro (h.l1 k hk) (by omega), fun k hk => ?_, fun k hk => faro (h.l3 k hk) (by omega), fun k hk => farb (h.r0 k hk) h.n4, fun k hk => farb (h.r1 k hk) h.n4, fun k hk => farb (h.r2 k hk) h.n4,
    (Below.heap_setCell w _ _ A.gf (Ne.symm h.n5)).trans h.f, by simpa [World.setCell] using h.lr, h.n1, h.n2, h.n3, h.n4, h.n5, h.n6, h.small, h.tc⟩
  by_cases e : k = i
  · subst e; simp only [upd_same]; exact (h.l2 k hk).set _
  · simp only [upd_other e]; exact faro (h.l2 k hk) (by omega)

theorem ArAt.set_fa {w : World} {b : Nat} {A : Ar} (h : ArAt w b A) {i : Nat} (hi : i < A.room) (x : Int) : ArAt (w.setCell ⟨A.gl, i * 8 + 7, none⟩ (.int .i64 x)) b { A with fa := upd A.fa i x } := by
  have farb : ∀ {g o : Nat} {v : Value}, Cell w g o v → A.gl ≠ g → Cell (w.setCell ⟨A.gl, i * 8 + 7, none⟩ (.int .i64 x)) g o v := fun hc hg => hc.far (blk_ne hg) _
  have faro : ∀ {o : Nat} {v : Value}, Cell w A.gl o v → i * 8 + 7 ≠ o → Cell (w.setCell ⟨A.gl, i * 8 + 7, none⟩ (.int .i64 x)) A.gl o v := fun hc hg => hc.far (off_ne hg) _
  refine ⟨farb h.c0 (Ne.symm h.n1), farb h.c1 (Ne.symm h.n1), farb h.c2 (Ne.symm h.n1), fun k hk c u hu => faro (h.l0 k hk c u hu) (by have hc : c < 5 := by { rw [← h.tc k hk]; exact (Array.getElem?_eq_some_iff.1 hu).1 }; omega), fun k hk => faro (h.l1 k hk) (by omega), fun k hk => faro (h.l2 k hk) (by omega), fun k hk => ?_, fun k hk => farb (h.r0 k hk) h.n4, fun k hk => farb (h.r1 k hk) h.n4, fun k hk => farb (h.r2 k hk) h.n4,
    (Below.heap_setCell w _ _ A.gf (Ne.symm h.n5)).trans h.f, by simpa [World.setCell] using h.lr, h.n1, h.n2, h.n3, h.n4, h.n5, h.n6, h.small, h.tc⟩
  by_cases e : k = i
  · subst e; simp only [upd_same]; exact (h.l3 k hk).set _
  · simp only [upd_other e]; exact faro (h.l3 k hk) (by omega)

theorem ArAt.set_rf {w : World} {b : Nat} {A : Ar} (h : ArAt w b A) {i : Nat} (hi : i < A.nr) (x : Int) : ArAt (w.setCell ⟨A.gr, i * 3, none⟩ (.int .i64 x)) b { A with rf := upd A.rf i x } := by
  have farb : ∀ {g o : Nat} {v : Value}, Cell w g o v → A.gr ≠ g → Cell (w.setCell ⟨A.gr, i * 3, none⟩ (.int .i64 x)) g o v := fun hc hg => hc.far (blk_ne hg) _
  have faro : ∀ {o : Nat} {v : Value}, Cell w A.gr o v → i * 3 ≠ o → Cell (w.setCell ⟨A.gr, i * 3, none⟩ (.int .i64 x)) A.gr o v := fun hc hg => hc.far (off_ne hg) _
  refine ⟨farb h.c0 (Ne.symm h.n2), farb h.c1 (Ne.symm h.n2), farb h.c2 (Ne.symm h.n2), fun k hk c u hu => farb (h.l0 k hk c u hu) (Ne.symm h.n4), fun k hk => farb (h.l1 k hk) (Ne.symm h.n4), fun k hk => farb (h.l2 k hk) (Ne.symm h.n4), fun k hk => farb (h.l3 k hk) (Ne.symm h.n4), fun k hk => ?_, fun k hk => faro (h.r1 k hk) (by omega), fun k hk => faro (h.r2 k hk) (by omega),
    (Below.heap_setCell w _ _ A.gf (Ne.symm h.n6)).trans h.f, by simpa [World.setCell] using h.lr, h.n1, h.n2, h.n3, h.n4, h.n5, h.n6, h.small, h.tc⟩
  by_cases e : k = i
  · subst e; simp only [upd_same]; exact (h.r0 k hk).set _
  · simp only [upd_other e]; exact faro (h.r0 k hk) (by omega)

theorem ArAt.set_rl {w : World} {b : Nat} {A : Ar} (h : ArAt w b A) {i : Nat} (hi : i < A.nr) (x : Int) : ArAt (w.setCell ⟨A.gr, i * 3 + 1, none⟩ (.int .i64 x)) b { A with rl := upd A.rl i x } := by
  have farb : ∀ {g o : Nat} {v : Value}, Cell w g o v → A.gr ≠ g → Cell (w.setCell ⟨A.gr, i * 3 + 1, none⟩ (.int .i64 x)) g o v := fun hc hg => hc.far (blk_ne hg) _
  have faro : ∀ {o : Nat} {v : Value}, Cell w A.gr o v → i * 3 + 1 ≠ o → Cell (w.setCell ⟨A.gr, i * 3 + 1, none⟩ (.int .i64 x)) A.gr o v := fun hc hg => hc.far (off_ne hg) _
  refine ⟨farb h.c0 (Ne.symm h.n2), farb h.c1 (Ne.symm h.n2), farb h.c2 (Ne.symm h.n2), fun k hk c u hu => farb (h.l0 k hk c u hu) (Ne.symm h.n4), fun k hk => farb (h.l1 k hk) (Ne.symm h.n4), fun k hk => farb (h.l2 k hk) (Ne.symm h.n4), fun k hk => farb (h.l3 k hk) (Ne.symm h.n4), fun k hk => faro (h.r0 k hk) (by omega), fun k hk => ?_, fun k hk => faro (h.r2 k hk) (by omega),
    (Below.heap_setCell w _ _ A.gf (Ne.symm h.n6)).trans h.f, by simpa [World.setCell] using h.lr, h.n1, h.n2, h.n3, h.n4, h.n5, h.n6, h.small, h.tc⟩
  by_cases e : k = i
  · subst e; simp only [upd_same]; exact (h.r1 k hk).set _
  · simp only [upd_other e]; exact faro (h.r1 k hk) (by omega)

theorem ArAt.set_rn {w : World} {b : Nat} {A : Ar} (h : ArAt w b A) {i : Nat} (hi : i < A.nr) (x : Int) : ArAt (w.setCell ⟨A.gr, i * 3 + 2, none⟩ (.int .i64 x)) b { A with rn := upd A.rn i x } := by
  have farb : ∀ {g o : Nat} {v : Value}, Cell w g o v → A.gr ≠ g → Cell (w.setCell ⟨A.gr, i * 3 + 2, none⟩ (.int .i64 x)) g o v := fun hc hg => hc.far (blk_ne hg) _
  have faro : ∀ {o : Nat} {v : Value}, Cell w A.gr o v → i * 3 + 2 ≠ o → Cell (w.setCell ⟨A.gr, i * 3 + 2, none⟩ (.int .i64 x)) A.gr o v := fun hc hg => hc.far (off_ne hg) _
  refine ⟨farb h.c0 (Ne.symm h.n2), farb h.c1 (Ne.symm h.n2), farb h.c2 (Ne.symm h.n2), fun k hk c u hu => farb (h.l0 k hk c u hu) (Ne.symm h.n4), fun k hk => farb (h.l1 k hk) (Ne.symm h.n4), fun k hk => farb (h.l2 k hk) (Ne.symm h.n4), fun k hk => farb (h.l3 k hk) (Ne.symm h.n4), fun k hk => faro (h.r0 k hk) (by omega), fun k hk => faro (h.r1 k hk) (by omega), fun k hk => ?_,
    (Below.heap_setCell w _ _ A.gf (Ne.symm h.n6)).trans h.f, by simpa [World.setCell] using h.lr, h.n1, h.n2, h.n3, h.n4, h.n5, h.n6, h.small, h.tc⟩
  by_cases e : k = i
  · subst e; simp only [upd_same]; exact (h.r2 k hk).set _
  · simp only [upd_other e]; exact faro (h.r2 k hk) (by omega)
end Od
end Go.Proofs.Ytkglplngnjgnhaa
