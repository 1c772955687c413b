/- Slots: what a store into a link or a row does to an arena. No condition. -/
import Derived.Test.YtiiflgihjnlmcaaSlots1
namespace Go.Proofs.Ytiiflgihjnlmcaa
set_option linter.unusedVariables false
set_option linter.unusedSimpArgs false
open Go.RowKit

theorem ArAt.set_th {w : World} {b : Nat} {A : Ar} (h : ArAt w b A) {i : Nat} (hi : i < A.room) (x : Value) : ArAt (w.setCell ⟨A.gl, i * 4, none⟩ (x)) b { A with th := upd A.th i x } := by
  have farb : ∀ {g o : Nat} {v : Value}, Cell w g o v → A.gl ≠ g → Cell (w.setCell ⟨A.gl, i * 4, none⟩ (x)) g o v := fun hc hg => hc.far (blk_ne hg) _
  have faro : ∀ {o : Nat} {v : Value}, Cell w A.gl o v → i * 4 ≠ o → Cell (w.setCell ⟨A.gl, i * 4, none⟩ (x)) A.gl o v := fun hc hg => hc.far (off_ne hg) _
  refine ⟨farb h.c0 (Ne.symm h.n1), farb h.c1 (Ne.symm h.n1), farb h.c2 (Ne.symm h.n1), fun k hk => ?_, fun k hk => faro (h.l1 k hk) (by omega), fun k hk => faro (h.l2 k hk) (by omega), fun k hk => faro (h.l3 k hk) (by omega), fun k hk => farb (h.r0 k hk) h.n4, fun k hk => farb (h.r1 k hk) h.n4, fun k hk => farb (h.r2 k hk) h.n4,
    (Below.heap_setCell w _ _ A.gf (Ne.symm h.n5)).trans h.f, by simpa [World.setCell] using h.lr, h.n1, h.n2, h.n3, h.n4, h.n5, h.n6, h.small⟩
  by_cases e : k = i
  · subst e; simp only [upd_same]; exact (h.l0 k hk).set _
  · simp only [upd_other e]; exact faro (h.l0 k hk) (by omega)

theorem ArAt.set_ro {w : World} {b : Nat} {A : Ar} (h : ArAt w b A) {i : Nat} (hi : i < A.room) (x : Int) : ArAt (w.setCell ⟨A.gl, i * 4 + 1, none⟩ (.int .i64 x)) b { A with ro := upd A.ro i x } := by
  have farb : ∀ {g o : Nat} {v : Value}, Cell w g o v → A.gl ≠ g → Cell (w.setCell ⟨A.gl, i * 4 + 1, none⟩ (.int .i64 x)) g o v := fun hc hg => hc.far (blk_ne hg) _
  have faro : ∀ {o : Nat} {v : Value}, Cell w A.gl o v → i * 4 + 1 ≠ o → Cell (w.setCell ⟨A.gl, i * 4 + 1, none⟩ (.int .i64 x)) A.gl o v := fun hc hg => hc.far (off_ne hg) _
  refine ⟨farb h.c0 (Ne.symm h.n1), farb h.c1 (Ne.symm h.n1), farb h.c2 (Ne.symm h.n1), fun k hk => faro (h.l0 k hk) (by omega), fun k hk => ?_, fun k hk => faro (h.l2 k hk) (by omega), fun k hk => faro (h.l3 k hk) (by omega), fun k hk => farb (h.r0 k hk) h.n4, fun k hk => farb (h.r1 k hk) h.n4, fun k hk => farb (h.r2 k hk) h.n4,
    (Below.heap_setCell w _ _ A.gf (Ne.symm h.n5)).trans h.f, by simpa [World.setCell] using h.lr, h.n1, h.n2, h.n3, h.n4, h.n5, h.n6, h.small⟩
  by_cases e : k = i
  · subst e; simp only [upd_same]; exact (h.l1 k hk).set _
  · simp only [upd_other e]; exact faro (h.l1 k hk) (by omega)

theorem ArAt.set_ah {w : World} {b : Nat} {A : Ar} (h : ArAt w b A) {i : Nat} (hi : i < A.room) (x : Int) : ArAt (w.setCell ⟨A.gl, i * 4 + 2, none⟩ (.int .i64 x)) b { A with ah := upd A.ah i x } := by
  have farb : ∀ {g o : Nat} {v : Value}, Cell w g o v → A.gl ≠ g → Cell (w.setCell ⟨A.gl, i * 4 + 2, none⟩ (.int .i64 x)) g o v := fun hc hg => hc.far (blk_ne hg) _
  have faro : ∀ {o : Nat} {v : Value}, Cell w A.gl o v → i * 4 + 2 ≠ o → Cell (w.setCell ⟨A.gl, i * 4 + 2, none⟩ (.int .i64 x)) A.gl o v := fun hc hg => hc.far (off_ne hg) _
  refine ⟨farb h.c0 (Ne.symm h.n1), farb h.c1 (Ne.symm h.n1), farb h.c2 (Ne.symm h.n1), fun k hk => faro (h.l0 k hk) (by omega), fun k hk => faro (h.l1 k hk) (by omega), fun k hk => ?_, fun k hk => faro (h.l3 k hk) (by omega), fun k hk => farb (h.r0 k hk) h.n4, fun k hk => farb (h.r1 k hk) h.n4, fun k hk => farb (h.r2 k hk) h.n4,
    (Below.heap_setCell w _ _ A.gf (Ne.symm h.n5)).trans h.f, by simpa [World.setCell] using h.lr, h.n1, h.n2, h.n3, h.n4, h.n5, h.n6, h.small⟩
  by_cases e : k = i
  · subst e; simp only [upd_same]; exact (h.l2 k hk).set _
  · simp only [upd_other e]; exact faro (h.l2 k hk) (by omega)

theorem ArAt.set_fa {w : World} {b : Nat} {A : Ar} (h : ArAt w b A) {i : Nat} (hi : i < A.room) (x : Int) : ArAt (w.setCell ⟨A.gl, i * 4 + 3, none⟩ (.int .i64 x)) b { A with fa := upd A.fa i x } := by
  have farb : ∀ {g o : Nat} {v : Value}, Cell w g o v → A.gl ≠ g → Cell (w.setCell ⟨A.gl, i * 4 + 3, none⟩ (.int .i64 x)) g o v := fun hc hg => hc.far (blk_ne hg) _
  have faro : ∀ {o : Nat} {v : Value}, Cell w A.gl o v → i * 4 + 3 ≠ o → Cell (w.setCell ⟨A.gl, i * 4 + 3, none⟩ (.int .i64 x)) A.gl o v := fun hc hg => hc.far (off_ne hg) _
  refine ⟨farb h.c0 (Ne.symm h.n1), farb h.c1 (Ne.symm h.n1), farb h.c2 (Ne.symm h.n1), fun k hk => faro (h.l0 k hk) (by omega), fun k hk => faro (h.l1 k hk) (by omega), fun k hk => faro (h.l2 k hk) (by omega), fun k hk => ?_, fun k hk => farb (h.r0 k hk) h.n4, fun k hk => farb (h.r1 k hk) h.n4, fun k hk => farb (h.r2 k hk) h.n4,
    (Below.heap_setCell w _ _ A.gf (Ne.symm h.n5)).trans h.f, by simpa [World.setCell] using h.lr, h.n1, h.n2, h.n3, h.n4, h.n5, h.n6, h.small⟩
  by_cases e : k = i
  · subst e; simp only [upd_same]; exact (h.l3 k hk).set _
  · simp only [upd_other e]; exact faro (h.l3 k hk) (by omega)

theorem ArAt.set_rf {w : World} {b : Nat} {A : Ar} (h : ArAt w b A) {i : Nat} (hi : i < A.nr) (x : Int) : ArAt (w.setCell ⟨A.gr, i * 3, none⟩ (.int .i64 x)) b { A with rf := upd A.rf i x } := by
  have farb : ∀ {g o : Nat} {v : Value}, Cell w g o v → A.gr ≠ g → Cell (w.setCell ⟨A.gr, i * 3, none⟩ (.int .i64 x)) g o v := fun hc hg => hc.far (blk_ne hg) _
  have faro : ∀ {o : Nat} {v : Value}, Cell w A.gr o v → i * 3 ≠ o → Cell (w.setCell ⟨A.gr, i * 3, none⟩ (.int .i64 x)) A.gr o v := fun hc hg => hc.far (off_ne hg) _
  refine ⟨farb h.c0 (Ne.symm h.n2), farb h.c1 (Ne.symm h.n2), farb h.c2 (Ne.symm h.n2), fun k hk => farb (h.l0 k hk) (Ne.symm h.n4), fun k hk => farb (h.l1 k hk) (Ne.symm h.n4), fun k hk => farb (h.l2 k hk) (Ne.symm h.n4), fun k hk => farb (h.l3 k hk) (Ne.symm h.n4), fun k hk => ?_, fun k hk => faro (h.r1 k hk) (by omega), fun k hk => faro (h.r2 k hk) (by omega),
    (Below.heap_setCell w _ _ A.gf (Ne.symm h.n6)).trans h.f, by simpa [World.setCell] using h.lr, h.n1, h.n2, h.n3, h.n4, h.n5, h.n6, h.small⟩
  by_cases e : k = i
  · subst e; simp only [upd_same]; exact (h.r0 k hk).set _
  · simp only [upd_other e]; exact faro (h.r0 k hk) (by omega)

theorem ArAt.set_rl {w : World} {b : Nat} {A : Ar} (h : ArAt w b A) {i : Nat} (hi : i < A.nr) (x : Int) : ArAt (w.setCell ⟨A.gr, i * 3 + 1, none⟩ (.int .i64 x)) b { A with rl := upd A.rl i x } := by
  have farb : ∀ {g o : Nat} {v : Value}, Cell w g o v → A.gr ≠ g → Cell (w.setCell ⟨A.gr, i * 3 + 1, none⟩ (.int .i64 x)) g o v := fun hc hg => hc.far (blk_ne hg) _
  have faro : ∀ {o : Nat} {v : Value}, Cell w A.gr o v → i * 3 + 1 ≠ o → Cell (w.setCell ⟨A.gr, i * 3 + 1, none⟩ (.int .i64 x)) A.gr o v := fun hc hg => hc.far (off_ne hg) _
  refine ⟨farb h.c0 (Ne.symm h.n2), farb h.c1 (Ne.symm h.n2), farb h.c2 (Ne.symm h.n2), fun k hk => farb (h.l0 k hk) (Ne.symm h.n4), fun k hk => farb (h.l1 k hk) (Ne.symm h.n4), fun k hk => farb (h.l2 k hk) (Ne.symm h.n4), fun k hk => farb (h.l3 k hk) (Ne.symm h.n4), fun k hk => faro (h.r0 k hk) (by omega), fun k hk => ?_, fun k hk => faro (h.r2 k hk) (by omega),
    (Below.heap_setCell w _ _ A.gf (Ne.symm h.n6)).trans h.f, by simpa [World.setCell] using h.lr, h.n1, h.n2, h.n3, h.n4, h.n5, h.n6, h.small⟩
  by_cases e : k = i
  · subst e; simp only [upd_same]; exact (h.r1 k hk).set _
  · simp only [upd_other e]; exact faro (h.r1 k hk) (by omega)

theorem ArAt.set_rn {w : World} {b : Nat} {A : Ar} (h : ArAt w b A) {i : Nat} (hi : i < A.nr) (x : Int) : ArAt (w.setCell ⟨A.gr, i * 3 + 2, none⟩ (.int .i64 x)) b { A with rn := upd A.rn i x } := by
  have farb : ∀ {g o : Nat} {v : Value}, Cell w g o v → A.gr ≠ g → Cell (w.setCell ⟨A.gr, i * 3 + 2, none⟩ (.int .i64 x)) g o v := fun hc hg => hc.far (blk_ne hg) _
  have faro : ∀ {o : Nat} {v : Value}, Cell w A.gr o v → i * 3 + 2 ≠ o → Cell (w.setCell ⟨A.gr, i * 3 + 2, none⟩ (.int .i64 x)) A.gr o v := fun hc hg => hc.far (off_ne hg) _
  refine ⟨farb h.c0 (Ne.symm h.n2), farb h.c1 (Ne.symm h.n2), farb h.c2 (Ne.symm h.n2), fun k hk => farb (h.l0 k hk) (Ne.symm h.n4), fun k hk => farb (h.l1 k hk) (Ne.symm h.n4), fun k hk => farb (h.l2 k hk) (Ne.symm h.n4), fun k hk => farb (h.l3 k hk) (Ne.symm h.n4), fun k hk => faro (h.r0 k hk) (by omega), fun k hk => faro (h.r1 k hk) (by omega), fun k hk => ?_,
    (Below.heap_setCell w _ _ A.gf (Ne.symm h.n6)).trans h.f, by simpa [World.setCell] using h.lr, h.n1, h.n2, h.n3, h.n4, h.n5, h.n6, h.small⟩
  by_cases e : k = i
  · subst e; simp only [upd_same]; exact (h.r2 k hk).set _
  · simp only [upd_other e]; exact faro (h.r2 k hk) (by omega)
end Go.Proofs.Ytiiflgihjnlmcaa
