/- The document's book: Copy. Conditions: a book as its New lays it. -/
import Derived.Test.YtilngakgofjmpaaR6g
import Derived.Test.YtilngakgofjmpaaR6d
namespace Go.Proofs.Ytilngakgofjmpaa
set_option linter.unusedVariables false
set_option linter.unusedSimpArgs false
open Go.RowKit Go.Shelf
open Od (OrdR)

/-- What Copy hands back: another book, behind all that lies there. -/
def CopyPost (w : World) (most room : Nat) (l : Bool → List OrdR) (e : Ending) (w' : World) : Prop := ∃ r vv, e = .returned (.pointer (some ⟨r, 0, none⟩)) ∧ R6M w' r vv most room l ∧ Only (fun _ => False) w w' ∧ ∀ i, R6T r vv i → w.heap.size ≤ i

theorem app_src {w : World} {base : Nat} {v : Value} {L : List OrdR} (h : w.ownsRow base 54 5 v L.length (ordC L)) : ∃ a c, v = .slice a L.length c ∧ (a = none → L.length = 0 ∧ c = 0) ∧ ∀ W, Only (fun _ => False) w W → ∀ A, a = some A → ∀ j u, (ordC L)[j]? = some u → W.cell? (A.add j) = some u := by
  rcases h.2 with ⟨hv, hn⟩ | ⟨g, cap, cur, hv, _⟩
  · exact ⟨none, 0, by rw [hv, hn], fun _ => ⟨hn, rfl⟩, fun W o A e => (by cases e)⟩
  · refine ⟨some ⟨g, 0, none⟩, cap, hv, fun e => (by cases e), fun W o A e j u hu => ?_⟩
    injection e with e
    subst e
    rw [hv] at h
    have h2 := h.cells rfl j u hu
    rw [show (⟨g, 0, none⟩ : Addr).add j = ⟨g, j, none⟩ by unfold Addr.add; split <;> simp_all] at h2 ⊢
    exact o.cell h2 id

set_option maxRecDepth 100000 in
theorem step_app_ord {ops : Array Oper} {o : Oper} {a : Act} {w : World} {K : Act → World → Prop} {Q : Exit → Act → World → Prop} {E : Prop}
    (hg : o.guard = none) (d x : Operand) (hop : o.op = Op.call { callee := Callee.builtin Builtin.append, args := #[d, x], argTypes := #[52, 52] }) (hty : o.type = 52)
    (v u : Value) (hd : a.eval d = v) (hx : a.eval x = u) (R : Value → World → Prop) (hr : ∃ v' w', (Builtin.append_ #[52, 52] 52 #[v, u]).run Try.prog w = .ok v' w' ∧ R v' w') (hK : ∀ v' w', R v' w' → K (a.put o.dst v') w') :
    if Region.wanted o (yielded ops a.tmps) = true then Oper.wp Try.prog o a w K Q else E := by
  obtain ⟨v', w', hr, hR⟩ := hr
  have hr : (Builtin.append_ #[52, 52] o.type #[v, u]).run Try.prog w = .ok v' w' := by rw [hty]; exact hr
  exact step_append_run2 hg d x _ _ hop v u hd hx hr (hK _ _ hR)
/-- What stands behind the first list's append, the second's. -/
structure CopA (w : World) (r g : Nat) (most room : Nat) (l : Bool → List OrdR) (W : World) : Prop where
  z : w.heap.size = g
  o : Only (fun _ => False) w W
  c0 : Cell W g 0 (.int .i64 (room : Nat))
  c1 : Cell W g 1 (.int .i64 (most : Nat))
  c2 : Cell W g 2 (.slice none 0 0)
  c3 : Cell W g 3 (.slice none 0 0)
theorem CopA.keep {w : World} {r g most room : Nat} {l : Bool → List OrdR} {W W' : World} (h : CopA w r g most room l W) (o : Only (fun _ => False) W W') : CopA w r g most room l W' := ⟨h.z, h.o.trans o, h.c0.only o id, h.c1.only o id, h.c2.only o id, h.c3.only o id⟩
structure CopB (w : World) (r g : Nat) (most room : Nat) (l : Bool → List OrdR) (v1 : Value) (W : World) : Prop where
  z : w.heap.size = g
  o : Only (fun _ => False) w W
  c0 : Cell W g 0 (.int .i64 (room : Nat))
  c1 : Cell W g 1 (.int .i64 (most : Nat))
  c2 : Cell W g 2 v1
  c3 : Cell W g 3 (.slice none 0 0)
  own : W.ownsRow (g + 1) 54 5 v1 (l false).length (ordC (l false))
theorem CopB.keep {w : World} {r g most room : Nat} {l : Bool → List OrdR} {v1 : Value} {W W' : World} (h : CopB w r g most room l v1 W) (o : Only (fun _ => False) W W') : CopB w r g most room l v1 W' := ⟨h.z, h.o.trans o, h.c0.only o id, h.c1.only o id, h.c2.only o id, h.c3.only o id, ownsRow_apart h.own o (fun _ _ => id)⟩

set_option maxRecDepth 100000 in
set_option maxHeartbeats 4000000 in
theorem r6_copy {w : World} {r most room : Nat} {vv : Bool → Value} {l : Bool → List OrdR} (h : R6M w r vv most room l) (hl : ∀ q, (l q).length ≤ 1000000) :
    Calls Try.prog 121 #[.pointer (some ⟨r, 0, none⟩)] w (CopyPost w most room l) := by
  obtain ⟨a0, k0, e0, n0, s0⟩ := app_src (h.own false)
  obtain ⟨a1, k1, e1, n1, s1⟩ := app_src (h.own true)
  have c0 := h.c0.cell
  have c1 := h.c1.cell
  have hlt := h.c0.lt
  have k2 := h.c2
  have k3 := h.c3
  rw [e0] at k2
  rw [e1] at k3
  have HS0 := Lib.hid fun W (o : Only (fun _ => False) w W) => (Gr.start W).app a0 (l false).length k0 (ordC (l false)) (ordC_length _) (s0 W o) n0 (ordC_one _) (by have := hl false; omega)
  have HS1 := Lib.hid fun W (o : Only (fun _ => False) w W) => (Gr.start W).app a1 (l true).length k1 (ordC (l true)) (ordC_length _) (s1 W o) n1 (ordC_one _) (by have := hl true; omega)
  have HK2 := Lib.hid k2
  have HK3 := Lib.hid k3
  obtain ⟨m0, hm0⟩ : ∃ m, m = (l false).length := ⟨_, rfl⟩
  obtain ⟨m1, hm1⟩ : ∃ m, m = (l true).length := ⟨_, rfl⟩
  rw [← hm0] at HS0 HK2
  rw [← hm1] at HS1 HK3
  have HM0 := Lib.hid hm0
  have HM1 := Lib.hid hm1
  clear h e0 e1 n0 n1 s0 s1 k2 k3 hl hm0 hm1
  go_enter Try.func121, Try.ntmps121
  go_wp2_with fail
  go_still_tail 9, (by kernel_rfl)
  go_upto_region 2 with fail
  obtain ⟨g, hg⟩ : ∃ g, w.heap.size = g := ⟨_, rfl⟩
  obtain ⟨WA, hWA⟩ : ∃ WA, (w.alloc (.cells #[.int .i64 (room : Nat), .int .i64 (most : Nat), .slice none 0 0, .slice none 0 0] 162)).drew = WA := ⟨_, rfl⟩
  have hB : ∀ o v, (#[.int .i64 (room : Nat), .int .i64 (most : Nat), .slice none 0 0, .slice none 0 0] : Array Value)[o]? = some v → Cell WA g o v := fun o v hv => by rw [← hWA, ← hg]; exact (Cell.new hv).drew
  have HA := Lib.hid (show CopA w r g most room l WA from ⟨hg, by rw [← hWA]; exact ((Only.refl _ _).alloc _).drew, hB 0 _ rfl, hB 1 _ rfl, hB 2 _ rfl, hB 3 _ rfl⟩)
  have d2 := (HK2.out.only HA.out.o id).cell
  have d3 := HA.out.c2.cell
  have zr := cell_lt d2
  have zg := cell_lt d3
  rw [hWA]
  simp only [hg]
  clear hg hWA hB c0 c1 hlt
  have HAP0 := Lib.hid (show ∀ W, CopA w r g most room l W → ∃ v' W', (Builtin.append_ #[52, 52] 52 #[.slice none 0 0, .slice a0 m0 k0]).run Try.prog W = .ok v' W' ∧ CopA w r g most room l W' ∧ W'.ownsRow (g + 1) 54 5 v' m0 (ordC (l false)) from fun W hW => by
    obtain ⟨v', W', h1, h2⟩ := HS0.out W hW.o
    simp only [Nat.zero_add, List.nil_append] at h2
    exact ⟨v', W', h1, hW.keep h2.only, ownsRow_base h2.own hW.c0.lt⟩)
  clear HS0
  go_cut [] from 14 to 25 (fun wx => ∃ v1, CopB w r g most room l v1 wx)
  case first =>
    go_region_law (refine step_app_ord rfl (.tmp 18) (.tmp 22) rfl rfl (.slice none 0 0) (.slice a0 m0 k0) (by simp [Act.eval, Act.put]) (by simp [Act.eval, Act.put]) (fun v' W' => CopA w r g most room l W' ∧ W'.ownsRow (g + 1) 54 5 v' m0 (ordC (l false))) (HAP0.out _ (HA.out.keep (by repeat' (first | (with_reducible exact Only.refl _ _) | (with_reducible assumption) | (refine Only.of_none ?_; with_reducible assumption) | (with_reducible refine Only.drewN ?_ _) | (with_reducible refine Only.drew ?_) | (with_reducible refine Only.alloc ?_ _) | (with_reducible refine Only.setCell ?_ ?_ _) | (with_reducible refine Only.then0 ?_ (by with_reducible assumption)) | (with_reducible refine Only.thenN ?_ (by with_reducible assumption) ?_) | (with_reducible refine Only.trans ?_ (by with_reducible assumption)) | (refine .inl ?_; first | rfl | (simp; done) | (simp [Ar.blk]; done)) | (refine .inr ?_; first | omega | (simp; done) | (simp; omega) | exact Only.size (by with_reducible assumption) | (refine Nat.le_trans (Only.size (by with_reducible assumption)) ?_; simp; done)))))) ?_; intro v' W' hR; obtain ⟨sa, sc, rfl, _⟩ := own_slice hR.2; have f2 := hR.1.c2.cell; have f2' := hR.1.c2.free; have zf := cell_lt f2; have HR := Lib.hid hR; clear hR)
    all_goals (
      go_wp2_with fail
      go_meet
      obtain ⟨hA, hw⟩ := HR.out
      have oS := (Only.refl (· = g) W').setCell (p := ⟨g, 2, none⟩) (.inl rfl) (.slice sa m0 sc)
      refine ⟨_, hA.z, hA.o.trans' oS (fun i h1 h2 => by have := hA.z; omega), hA.c0.far (off_ne (by decide)) _, hA.c1.far (off_ne (by decide)) _, hA.c2.set _, hA.c3.far (off_ne (by decide)) _, ?_⟩
      rw [← HM0.out]
      exact ownsRow_apart hw oS (fun i hi e => by have := hw.lt i hi; omega))
  case rest =>
  obtain ⟨v1, hB⟩ := hcut
  obtain ⟨WB, hWB⟩ : ∃ WB, WB = wc := ⟨_, rfl⟩
  rw [← hWB] at hB ⊢
  clear hWB HA HAP0 d2 d3 zr zg
  have HB := Lib.hid hB
  have d2 := (HK3.out.only hB.o id).cell
  have d3 := hB.c3.cell
  have zr := cell_lt d2
  have zg := cell_lt d3
  have HAP1 := Lib.hid (show ∀ W, CopB w r g most room l v1 W → ∃ v' W', (Builtin.append_ #[52, 52] 52 #[.slice none 0 0, .slice a1 m1 k1]).run Try.prog W = .ok v' W' ∧ CopB w r g most room l v1 W' ∧ W'.ownsRow W.heap.size 54 5 v' m1 (ordC (l true)) from fun W hW => by
    obtain ⟨v', W', h1, h2⟩ := HS1.out W hW.o
    simp only [Nat.zero_add, List.nil_append] at h2
    exact ⟨v', W', h1, hW.keep h2.only, h2.own⟩)
  clear hB HS1
  go_upto_region 3 with fail
  go_cut [] from 26 to 37 (fun wx => ∃ vv, R6M wx g vv most room l ∧ Only (fun _ => False) w wx ∧ ∀ i, R6T g vv i → w.heap.size ≤ i)
  case first =>
    go_region_law (refine step_app_ord rfl (.tmp 30) (.tmp 34) rfl rfl (.slice none 0 0) (.slice a1 m1 k1) (by simp [Act.eval, Act.put]) (by simp [Act.eval, Act.put]) (fun v' W' => CopB w r g most room l v1 W' ∧ W'.ownsRow WB.heap.size 54 5 v' m1 (ordC (l true))) (HAP1.out _ (HB.out.keep (by repeat' (first | (with_reducible exact Only.refl _ _) | (with_reducible assumption) | (refine Only.of_none ?_; with_reducible assumption) | (with_reducible refine Only.drewN ?_ _) | (with_reducible refine Only.drew ?_) | (with_reducible refine Only.alloc ?_ _) | (with_reducible refine Only.setCell ?_ ?_ _) | (with_reducible refine Only.then0 ?_ (by with_reducible assumption)) | (with_reducible refine Only.thenN ?_ (by with_reducible assumption) ?_) | (with_reducible refine Only.trans ?_ (by with_reducible assumption)) | (refine .inl ?_; first | rfl | (simp; done) | (simp [Ar.blk]; done)) | (refine .inr ?_; first | omega | (simp; done) | (simp; omega) | exact Only.size (by with_reducible assumption) | (refine Nat.le_trans (Only.size (by with_reducible assumption)) ?_; simp; done)))))) ?_; intro v' W' hR; obtain ⟨sa, sc, rfl, _⟩ := own_slice hR.2; have f2 := hR.1.c3.cell; have f2' := hR.1.c3.free; have zf := cell_lt f2; have HR := Lib.hid hR; clear hR)
    all_goals (
      go_wp2_with fail
      go_meet
      obtain ⟨hB, hw⟩ := HR.out
      have oS := (Only.refl (· = g) W').setCell (p := ⟨g, 3, none⟩) (.inl rfl) (.slice sa m1 sc)
      have l1 : ∀ i, v1.ownBlock = some i → g + 1 ≤ i ∧ i < WB.heap.size := fun i hi => HB.out.own.lt i hi
      have l2 : ∀ i, (Value.slice sa m1 sc).ownBlock = some i → WB.heap.size ≤ i ∧ i < W'.heap.size := fun i hi => hw.lt i hi
      have hz := hB.z
      have zB := HB.out.c0.lt
      refine ⟨fun q => if q then .slice sa m1 sc else v1, ⟨hB.c0.far (off_ne (by decide)) _, hB.c1.far (off_ne (by decide)) _, hB.c2.far (off_ne (by decide)) _, hB.c3.set _, fun q => ?_, fun q i hi => ?_, fun i hi hj => ?_⟩, hB.o.trans' oS (fun i h1 h2 => by omega), fun i hi => ?_⟩
      · cases q
        · exact ownsRow_base (ownsRow_apart hB.own oS (fun i hi e => by have := l1 i hi; omega)) (Nat.zero_le _)
        · show World.ownsRow _ _ _ _ _ (l true).length _
          rw [← HM1.out]
          exact ownsRow_base (ownsRow_apart hw oS (fun i hi e => by have := l2 i hi; omega)) (Nat.zero_le _)
      · cases q
        · have := l1 i hi; omega
        · have := l2 i hi; omega
      · have h1 := l1 i hi
        have h2 := l2 i hj
        omega
      · rcases hi with rfl | ⟨q, hi⟩
        · omega
        · cases q
          · have := l1 i hi; omega
          · have := l2 i hi; omega)
  case rest =>
  obtain ⟨vv', h1, h2, h3⟩ := hcut
  have HF := Lib.hid (⟨h1, h2, h3⟩ : _ ∧ _ ∧ _)
  clear h1 h2 h3 HB HAP1 d2 d3 zr zg
  go_wp2_with fail
  go_returns
  exact ⟨g, vv', rfl, HF.out⟩
end Go.Proofs.Ytilngakgofjmpaa
