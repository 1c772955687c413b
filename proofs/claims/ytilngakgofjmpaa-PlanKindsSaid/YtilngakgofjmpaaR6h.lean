/- The document's book: Remove. Conditions: a book as its New lays it. -/
import Derived.Test.YtilngakgofjmpaaR6g
namespace Go.Proofs.Ytilngakgofjmpaa
set_option linter.unusedVariables false
set_option linter.unusedSimpArgs false
open Go.RowKit Go.Shelf
open Od (OrdR)

theorem del_at {L : List OrdR} {j : Nat} {o : OrdR} {k : Int} (hj : L[j]? = some o) (hk : o.i = k) (hn : (L.map OrdR.i).Nodup) : delL k L = L.take j ++ L.drop (j + 1) := by
  have hsp := split_at hj
  conv => lhs; rw [hsp]
  rw [hsp, List.map_append, List.map_cons] at hn
  have h2 := List.nodup_append.1 hn
  have h3 := List.nodup_cons.1 h2.2.1
  unfold delL
  rw [List.filter_append, List.filter_cons, if_neg (by simp [hk]), List.filter_eq_self.2 (fun x hx => ?_), List.filter_eq_self.2 (fun x hx => ?_)]
  · have : x.i ≠ o.i := fun e => h3.1 (List.mem_map.2 ⟨x, hx, e⟩)
    simpa [hk] using this
  · have : x.i ≠ o.i := fun e => h2.2.2 _ (List.mem_map.2 ⟨x, hx, rfl⟩) _ (by simp) e
    simpa [hk] using this
theorem ids_ne {l : Bool → List OrdR} (h : ((l false ++ l true).map OrdR.i).Nodup) {q k : Bool} (hq : k ≠ q) {o p : OrdR} (ho : o ∈ l q) (hp : p ∈ l k) : p.i ≠ o.i := by
  rw [List.map_append] at h
  have h2 := (List.nodup_append.1 h).2.2
  cases q <;> cases k <;> simp at hq
  · exact fun e => h2 _ (List.mem_map.2 ⟨o, ho, rfl⟩) _ (List.mem_map.2 ⟨p, hp, rfl⟩) e.symm
  · exact h2 _ (List.mem_map.2 ⟨p, hp, rfl⟩) _ (List.mem_map.2 ⟨o, ho, rfl⟩)
theorem ids_one {l : Bool → List OrdR} (h : ((l false ++ l true).map OrdR.i).Nodup) (q : Bool) : ((l q).map OrdR.i).Nodup := by
  rw [List.map_append] at h
  have h2 := List.nodup_append.1 h
  cases q
  · exact h2.1
  · exact h2.2.1
theorem remS_at {l : Bool → List OrdR} (h : ((l false ++ l true).map OrdR.i).Nodup) {q : Bool} {j : Nat} {o : OrdR} {k : Int} (hj : (l q)[j]? = some o) (hk : o.i = k) : remS l k = setS l q ((l q).take j ++ (l q).drop (j + 1)) := funext fun p => by
  unfold remS
  by_cases e : p = q
  · subst e; rw [setS_same]; exact del_at hj hk (ids_one h p)
  · rw [setS_other e]
    exact delL_not fun x hx => by rw [← hk]; exact ids_ne h e (List.mem_of_getElem? hj) hx

section
variable {w : World} {r most room : Nat} {vv : Bool → Value} {T : Nat → Prop} {l : Bool → List OrdR}
/-- A post, seen from an elder world, with cells of one's own written behind it. -/
theorem R6Post.wrap {w w3 w' w'' : World} {S : Nat → Prop} {v : Value} {e : Ending} (o0 : Only (fun _ => False) w w3) (hp : R6Post w3 r T most room l v e w') (o2 : Only S w' w'') (hS : ∀ i, S i → w.heap.size ≤ i ∧ i < w3.heap.size) (hT : ∀ i, T i → i < w.heap.size) : R6Post w r T most room l v e w'' := by
  obtain ⟨T', he, hr, ho, hg⟩ := hp
  refine ⟨T', he, hr.only o2 (fun i hi hs => ?_), ?_, fun i hi => ?_⟩
  · have := hS i hs
    rcases hg i hi with h | h
    · have := hT i h; omega
    · omega
  · refine ((Only.of_none o0).trans ho).trans' o2 (fun i h1 h2 => ?_)
    have := hS i h2; omega
  · rcases hg i hi with h | h
    · exact .inl h
    · exact .inr (Nat.le_trans o0.size h)
set_option maxRecDepth 100000 in
set_option maxHeartbeats 8000000 in
theorem r6_remove (h : R6M w r vv most room l) (g : Good most room l) (k : Int) :
    Calls Try.prog 84 #[.pointer (some ⟨r, 0, none⟩), .int .i64 k] w (R6Post w r (R6T r vv) most room (remS l k) (remV l k)) := by
  have hz : ∀ q, (l q).length ≤ 1000000 := fun q => by have := g.le q; omega
  have HG := Lib.hid fun W (ow : Only (fun _ => False) w W) => r6_get (h.only ow fun _ _ => id) hz k
  cases hg : getL l k with
  | none =>
    have e1 : remV l k = .tuple #[ordV zOrd, .int .i64 63] := by unfold remV; rw [hg]
    have e2 : remS l k = l := funext fun q => delL_not (getL_not hg q)
    rw [e1, e2]
    rw [getV_none hg] at HG
    refine Calls.mono (R := fun e w' => e = .returned (.tuple #[ordV zOrd, .int .i64 63]) ∧ Only (fun _ => False) w w') ?_ (fun e w' hp => h.stay hp.1 hp.2)
    unfold ordV zOrd
    clear h g hz hg e1 e2
    go_enter Try.func84, Try.ntmps84
    go_wp2_with fail
    refine (HG.out _ (by repeat' (first | (with_reducible exact Only.refl _ _) | (with_reducible assumption) | (refine Only.of_none ?_; with_reducible assumption) | (with_reducible refine Only.drewN ?_ _) | (with_reducible refine Only.drew ?_) | (with_reducible refine Only.alloc ?_ _) | (with_reducible refine Only.setCell ?_ ?_ _) | (with_reducible refine Only.then0 ?_ (by with_reducible assumption)) | (with_reducible refine Only.thenN ?_ (by with_reducible assumption) ?_) | (with_reducible refine Only.trans ?_ (by with_reducible assumption)) | (refine .inl ?_; first | rfl | (simp; done) | (simp [Ar.blk]; done)) | (refine .inr ?_; first | omega | (simp; done) | (simp; omega) | exact Only.size (by with_reducible assumption) | (refine Nat.le_trans (Only.size (by with_reducible assumption)) ?_; simp; done))))).mono ?_
    rintro e w1 ⟨rfl, o1⟩
    have h5 := (Five.new w (.int .i64 0) (.int .i64 0) (.int .u8 0) (.int .i64 0) (.int .i64 0) 54).only o1 id
    have y0 := h5.c0.cell; have y1 := h5.c1.cell; have y2 := h5.c2.cell; have y3 := h5.c3.cell; have y4 := h5.c4.cell
    have f0 := h5.c0.free; have f1 := h5.c1.free; have f2 := h5.c2.free; have f3 := h5.c3.free; have f4 := h5.c4.free
    have yz := cell_lt y0
    have h7 := (h5.put (.int .i64 0) (.int .i64 0) (.int .u8 0) (.int .i64 0) (.int .i64 0)).only ((Only.refl (fun _ => False) _).alloc (.cells #[.int .i64 0, .int .i64 0, .int .u8 0, .int .i64 0, .int .i64 0] 54)) id
    have O7 := Lib.hid ((put5_only (show Only (fun _ => False) w w1 by repeat' (first | (with_reducible exact Only.refl _ _) | (with_reducible assumption) | (refine Only.of_none ?_; with_reducible assumption) | (with_reducible refine Only.drewN ?_ _) | (with_reducible refine Only.drew ?_) | (with_reducible refine Only.alloc ?_ _) | (with_reducible refine Only.setCell ?_ ?_ _) | (with_reducible refine Only.then0 ?_ (by with_reducible assumption)) | (with_reducible refine Only.thenN ?_ (by with_reducible assumption) ?_) | (with_reducible refine Only.trans ?_ (by with_reducible assumption)) | (refine .inl ?_; first | rfl | (simp; done) | (simp [Ar.blk]; done)) | (refine .inr ?_; first | omega | (simp; done) | (simp; omega) | exact Only.size (by with_reducible assumption) | (refine Nat.le_trans (Only.size (by with_reducible assumption)) ?_; simp; done)))) (.inr (Nat.le_refl _)) (.int .i64 0) (.int .i64 0) (.int .u8 0) (.int .i64 0) (.int .i64 0)).alloc (.cells #[.int .i64 0, .int .i64 0, .int .u8 0, .int .i64 0, .int .i64 0] 54))
    have H7 := Lib.hid h7
    clear h5 h7
    go_wp2_with fail
    have h7 := H7.out
    have g0 := h7.c0.cell; have g1 := h7.c1.cell; have g2 := h7.c2.cell; have g3 := h7.c3.cell; have g4 := h7.c4.cell
    refine bodyPost_ret (by simp [results, Try.results84, go_sem, g0, g1, g2, g3, g4]; try rfl) rfl ?_
    exact ⟨rfl, O7.out⟩
  | some o =>
    obtain ⟨hi, hat⟩ := getL_at hg
    rw [getV_some hg] at HG
    have e1 : remV l k = .tuple #[ordV o, .int .i64 0] := by unfold remV; rw [hg]
    rw [e1]
    have hloc : ∃ (q : Bool) (j : Nat), (l q)[j]? = some o ∧ ∀ x ∈ (l q).take j, x.i ≠ k := by
      rcases hat with ⟨j, h1, h2⟩ | ⟨_, j, h1, h2⟩
      · exact ⟨false, j, h1, h2⟩
      · exact ⟨true, j, h1, h2⟩
    obtain ⟨q, j, hj, hno⟩ := hloc
    have hside := g.side q o (List.mem_of_getElem? hj)
    rw [remS_at g.ids hj hi]
    have hjl := (List.getElem?_eq_some_iff.1 hj).1
    have HW := Lib.hid fun W (ow : Only (fun _ => False) w W) => r6_without ((h.only ow fun _ _ => id).own q) j hjl (hz q)
    obtain ⟨a, cap, hvv, hcap, hoa⟩ := OrdAt.of_own (h.own q)
    have HPL := Lib.hid fun W (ow : Only (fun _ => False) w W) => r6_place_any (w := W) (l q) a cap (hoa.only ow fun _ _ => id) (hz q) k (j : Nat) (.inl ⟨j, o, rfl, hj, hi, hno⟩)
    have HP := Lib.hid fun W3 (o3 : Only (fun _ => False) w W3) W (ow : Only (fun _ => False) W3 W) v (hv : W.ownsRow W3.heap.size 54 5 v ((l q).take j ++ (l q).drop (j + 1)).length (ordC ((l q).take j ++ (l q).drop (j + 1)))) => (h.only o3 fun _ _ => id).put ow hv q (x := .tuple #[ordV o, .int .i64 0]) (e := .returned (.tuple #[ordV o, .int .i64 0])) rfl
    have hcq := h.cq q
    obtain ⟨M, hM⟩ : ∃ M, M = (l q).take j ++ (l q).drop (j + 1) := ⟨_, rfl⟩
    rw [← hM] at HW HP ⊢
    rw [hvv] at HW hcq
    obtain ⟨n, hn⟩ : ∃ n, n = (l q).length := ⟨_, rfl⟩
    rw [← hn] at HW hcq HPL
    have c2 := hcq.cell
    have z2 := cell_lt c2
    obtain ⟨oi, oc, os, op, oq⟩ := o
    unfold ordV at HP ⊢
    simp only at HG HP hside ⊢
    clear hg hat hz e1 hi hno hjl hoa hvv hcap hM hn hj g
    have h5 := Five.new w (.int .i64 0) (.int .i64 0) (.int .u8 0) (.int .i64 0) (.int .i64 0) 54
    have hR := hcq
    have HT : ∀ i, R6T r vv i → i < w.heap.size := h.lt
    cases q with
    | false =>
      subst hside
      have c2 : w.cell? ⟨r, 2, none⟩ = some (.slice a n cap) := c2
      have HR := Lib.hid (show Cell w r 2 (.slice a n cap) from hR)
      have HG := Lib.hid fun W ow => (show Calls Try.prog 86 #[.pointer (some ⟨r, 0, none⟩), .int .i64 k] W (fun e w' => e = .returned (.tuple #[.agg #[.int .i64 oi, .int .i64 oc, .int .u8 1, .int .i64 op, .int .i64 oq], .bool true]) ∧ Only (fun _ => False) W w') from HG.out W ow)
      show Calls _ _ _ _ (R6Post w r (R6T r vv) most room (setS l false M) (.tuple #[.agg #[.int .i64 oi, .int .i64 oc, .int .u8 1, .int .i64 op, .int .i64 oq], .int .i64 0]))
      clear hR hcq
      go_enter Try.func84, Try.ntmps84
      go_wp2_with fail
      refine (HG.out _ (by repeat' (first | (with_reducible exact Only.refl _ _) | (with_reducible assumption) | (refine Only.of_none ?_; with_reducible assumption) | (with_reducible refine Only.drewN ?_ _) | (with_reducible refine Only.drew ?_) | (with_reducible refine Only.alloc ?_ _) | (with_reducible refine Only.setCell ?_ ?_ _) | (with_reducible refine Only.then0 ?_ (by with_reducible assumption)) | (with_reducible refine Only.thenN ?_ (by with_reducible assumption) ?_) | (with_reducible refine Only.trans ?_ (by with_reducible assumption)) | (refine .inl ?_; first | rfl | (simp; done) | (simp [Ar.blk]; done)) | (refine .inr ?_; first | omega | (simp; done) | (simp; omega) | exact Only.size (by with_reducible assumption) | (refine Nat.le_trans (Only.size (by with_reducible assumption)) ?_; simp; done))))).mono ?_
      rintro e w1 ⟨rfl, o1⟩
      have h5 := h5.only o1 id; have y0 := h5.c0.cell; have y1 := h5.c1.cell; have y2 := h5.c2.cell; have y3 := h5.c3.cell; have y4 := h5.c4.cell; have yz := cell_lt y0
      have cr := (HR.out.only (show Only (fun _ => False) w w1 by repeat' (first | (with_reducible exact Only.refl _ _) | (with_reducible assumption) | (refine Only.of_none ?_; with_reducible assumption) | (with_reducible refine Only.drewN ?_ _) | (with_reducible refine Only.drew ?_) | (with_reducible refine Only.alloc ?_ _) | (with_reducible refine Only.setCell ?_ ?_ _) | (with_reducible refine Only.then0 ?_ (by with_reducible assumption)) | (with_reducible refine Only.thenN ?_ (by with_reducible assumption) ?_) | (with_reducible refine Only.trans ?_ (by with_reducible assumption)) | (refine .inl ?_; first | rfl | (simp; done) | (simp [Ar.blk]; done)) | (refine .inr ?_; first | omega | (simp; done) | (simp; omega) | exact Only.size (by with_reducible assumption) | (refine Nat.le_trans (Only.size (by with_reducible assumption)) ?_; simp; done)))) id).cell
      have zr := cell_lt cr
      have HO1 := Lib.hid (show Only (fun _ => False) w w1 by repeat' (first | (with_reducible exact Only.refl _ _) | (with_reducible assumption) | (refine Only.of_none ?_; with_reducible assumption) | (with_reducible refine Only.drewN ?_ _) | (with_reducible refine Only.drew ?_) | (with_reducible refine Only.alloc ?_ _) | (with_reducible refine Only.setCell ?_ ?_ _) | (with_reducible refine Only.then0 ?_ (by with_reducible assumption)) | (with_reducible refine Only.thenN ?_ (by with_reducible assumption) ?_) | (with_reducible refine Only.trans ?_ (by with_reducible assumption)) | (refine .inl ?_; first | rfl | (simp; done) | (simp [Ar.blk]; done)) | (refine .inr ?_; first | omega | (simp; done) | (simp; omega) | exact Only.size (by with_reducible assumption) | (refine Nat.le_trans (Only.size (by with_reducible assumption)) ?_; simp; done))))
      have HF8 := Lib.hid (Five.new w1 (.int .i64 oi) (.int .i64 oc) (.int .u8 1) (.int .i64 op) (.int .i64 oq) 54)
      have HH5 := Lib.hid h5
      have zw1 : w.heap.size < w1.heap.size := yz
      clear HG y0 y1 y2 y3 y4 yz h5
      go_wp2_with fail
      go_region_with (first | (go_at_call 134; refine (HPL.out _ (by have := HO1.out; repeat' (first | (with_reducible exact Only.refl _ _) | (with_reducible assumption) | (refine Only.of_none ?_; with_reducible assumption) | (with_reducible refine Only.drewN ?_ _) | (with_reducible refine Only.drew ?_) | (with_reducible refine Only.alloc ?_ _) | (with_reducible refine Only.setCell ?_ ?_ _) | (with_reducible refine Only.then0 ?_ (by with_reducible assumption)) | (with_reducible refine Only.thenN ?_ (by with_reducible assumption) ?_) | (with_reducible refine Only.trans ?_ (by with_reducible assumption)) | (refine .inl ?_; first | rfl | (simp; done) | (simp [Ar.blk]; done)) | (refine .inr ?_; first | omega | (simp; done) | (simp; omega) | exact Only.size (by with_reducible assumption) | (refine Nat.le_trans (Only.size (by with_reducible assumption)) ?_; simp; done))))).mono ?_; rintro e w6 ⟨rfl, rfl⟩) | (go_at_call 133; refine (HW.out _ (by have := HO1.out; repeat' (first | (with_reducible exact Only.refl _ _) | (with_reducible assumption) | (refine Only.of_none ?_; with_reducible assumption) | (with_reducible refine Only.drewN ?_ _) | (with_reducible refine Only.drew ?_) | (with_reducible refine Only.alloc ?_ _) | (with_reducible refine Only.setCell ?_ ?_ _) | (with_reducible refine Only.then0 ?_ (by with_reducible assumption)) | (with_reducible refine Only.thenN ?_ (by with_reducible assumption) ?_) | (with_reducible refine Only.trans ?_ (by with_reducible assumption)) | (refine .inl ?_; first | rfl | (simp; done) | (simp [Ar.blk]; done)) | (refine .inr ?_; first | omega | (simp; done) | (simp; omega) | exact Only.size (by with_reducible assumption) | (refine Nat.le_trans (Only.size (by with_reducible assumption)) ?_; simp; done))))).mono ?_; rintro e w7 ⟨v7, rfl, hv7, o7⟩; obtain ⟨b7, d7, rfl, _⟩ := own_slice hv7; have fr := (HR.out.only (show Only (fun _ => False) w w7 by have := HO1.out; repeat' (first | (with_reducible exact Only.refl _ _) | (with_reducible assumption) | (refine Only.of_none ?_; with_reducible assumption) | (with_reducible refine Only.drewN ?_ _) | (with_reducible refine Only.drew ?_) | (with_reducible refine Only.alloc ?_ _) | (with_reducible refine Only.setCell ?_ ?_ _) | (with_reducible refine Only.then0 ?_ (by with_reducible assumption)) | (with_reducible refine Only.thenN ?_ (by with_reducible assumption) ?_) | (with_reducible refine Only.trans ?_ (by with_reducible assumption)) | (refine .inl ?_; first | rfl | (simp; done) | (simp [Ar.blk]; done)) | (refine .inr ?_; first | omega | (simp; done) | (simp; omega) | exact Only.size (by with_reducible assumption) | (refine Nat.le_trans (Only.size (by with_reducible assumption)) ?_; simp; done)))) id).free; have zr := (HR.out.only (show Only (fun _ => False) w w7 by have := HO1.out; repeat' (first | (with_reducible exact Only.refl _ _) | (with_reducible assumption) | (refine Only.of_none ?_; with_reducible assumption) | (with_reducible refine Only.drewN ?_ _) | (with_reducible refine Only.drew ?_) | (with_reducible refine Only.alloc ?_ _) | (with_reducible refine Only.setCell ?_ ?_ _) | (with_reducible refine Only.then0 ?_ (by with_reducible assumption)) | (with_reducible refine Only.thenN ?_ (by with_reducible assumption) ?_) | (with_reducible refine Only.trans ?_ (by with_reducible assumption)) | (refine .inl ?_; first | rfl | (simp; done) | (simp [Ar.blk]; done)) | (refine .inr ?_; first | omega | (simp; done) | (simp; omega) | exact Only.size (by with_reducible assumption) | (refine Nat.le_trans (Only.size (by with_reducible assumption)) ?_; simp; done)))) id).lt; have cr7 := (HR.out.only (show Only (fun _ => False) w w7 by have := HO1.out; repeat' (first | (with_reducible exact Only.refl _ _) | (with_reducible assumption) | (refine Only.of_none ?_; with_reducible assumption) | (with_reducible refine Only.drewN ?_ _) | (with_reducible refine Only.drew ?_) | (with_reducible refine Only.alloc ?_ _) | (with_reducible refine Only.setCell ?_ ?_ _) | (with_reducible refine Only.then0 ?_ (by with_reducible assumption)) | (with_reducible refine Only.thenN ?_ (by with_reducible assumption) ?_) | (with_reducible refine Only.trans ?_ (by with_reducible assumption)) | (refine .inl ?_; first | rfl | (simp; done) | (simp [Ar.blk]; done)) | (refine .inr ?_; first | omega | (simp; done) | (simp; omega) | exact Only.size (by with_reducible assumption) | (refine Nat.le_trans (Only.size (by with_reducible assumption)) ?_; simp; done)))) id).cell; have OX := Lib.hid (show Only (fun _ => False) (w1.alloc (.cells #[.int .i64 oi, .int .i64 oc, .int .u8 1, .int .i64 op, .int .i64 oq] 54)) w7 by repeat' (first | (with_reducible exact Only.refl _ _) | (with_reducible assumption) | (refine Only.of_none ?_; with_reducible assumption) | (with_reducible refine Only.drewN ?_ _) | (with_reducible refine Only.drew ?_) | (with_reducible refine Only.alloc ?_ _) | (with_reducible refine Only.setCell ?_ ?_ _) | (with_reducible refine Only.then0 ?_ (by with_reducible assumption)) | (with_reducible refine Only.thenN ?_ (by with_reducible assumption) ?_) | (with_reducible refine Only.trans ?_ (by with_reducible assumption)) | (refine .inl ?_; first | rfl | (simp; done) | (simp [Ar.blk]; done)) | (refine .inr ?_; first | omega | (simp; done) | (simp; omega) | exact Only.size (by with_reducible assumption) | (refine Nat.le_trans (Only.size (by with_reducible assumption)) ?_; simp; done)))); have F7 := HF8.out.only OX.out id; have q0 := F7.c0.cell; have q1 := F7.c1.cell; have q2 := F7.c2.cell; have q3 := F7.c3.cell; have q4 := F7.c4.cell; have qz := cell_lt q0; have G7 := (HH5.out.only (show Only (fun _ => False) w1 w7 by repeat' (first | (with_reducible exact Only.refl _ _) | (with_reducible assumption) | (refine Only.of_none ?_; with_reducible assumption) | (with_reducible refine Only.drewN ?_ _) | (with_reducible refine Only.drew ?_) | (with_reducible refine Only.alloc ?_ _) | (with_reducible refine Only.setCell ?_ ?_ _) | (with_reducible refine Only.then0 ?_ (by with_reducible assumption)) | (with_reducible refine Only.thenN ?_ (by with_reducible assumption) ?_) | (with_reducible refine Only.trans ?_ (by with_reducible assumption)) | (refine .inl ?_; first | rfl | (simp; done) | (simp [Ar.blk]; done)) | (refine .inr ?_; first | omega | (simp; done) | (simp; omega) | exact Only.size (by with_reducible assumption) | (refine Nat.le_trans (Only.size (by with_reducible assumption)) ?_; simp; done)))) id); have y0 := G7.c0.cell; have y1 := G7.c1.cell; have y2 := G7.c2.cell; have y3 := G7.c3.cell; have y4 := G7.c4.cell; have f0 := G7.c0.free; have f1 := G7.c1.free; have f2 := G7.c2.free; have f3 := G7.c3.free; have f4 := G7.c4.free; have HV7 := Lib.hid hv7; clear hv7 F7 G7))
      all_goals (
        go_wp2_with fail
        have G7 := HH5.out.only (show Only (fun _ => False) w1 w7 from ((Only.refl _ _).alloc _).trans OX.out) id
        have G8 := G7.only ((Only.refl (· = r) w7).setCell (p := ⟨r, 2, none⟩) (.inl rfl) (.slice b7 M.length d7)) (fun e => by omega)
        have G9 := G8.put (.int .i64 oi) (.int .i64 oc) (.int .u8 1) (.int .i64 op) (.int .i64 oq)
        have g0 := G9.c0.cell; have g1 := G9.c1.cell; have g2 := G9.c2.cell; have g3 := G9.c3.cell; have g4 := G9.c4.cell
        refine bodyPost_ret (by simp [results, Try.results84, go_sem, g0, g1, g2, g3, g4]; try rfl) rfl ?_
        exact (HP.out w1 HO1.out w7 (((Only.refl _ _).alloc _).trans OX.out) _ (ownsRow_base HV7.out (by simp))).wrap HO1.out (put5_only (S := (· = w.heap.size)) (Only.refl _ _) (.inl rfl) _ _ _ _ _) (fun i hi => by subst hi; exact ⟨Nat.le_refl _, zw1⟩) HT)
    | true =>
      subst hside
      have c2 : w.cell? ⟨r, 3, none⟩ = some (.slice a n cap) := c2
      have HR := Lib.hid (show Cell w r 3 (.slice a n cap) from hR)
      have HG := Lib.hid fun W ow => (show Calls Try.prog 86 #[.pointer (some ⟨r, 0, none⟩), .int .i64 k] W (fun e w' => e = .returned (.tuple #[.agg #[.int .i64 oi, .int .i64 oc, .int .u8 2, .int .i64 op, .int .i64 oq], .bool true]) ∧ Only (fun _ => False) W w') from HG.out W ow)
      show Calls _ _ _ _ (R6Post w r (R6T r vv) most room (setS l true M) (.tuple #[.agg #[.int .i64 oi, .int .i64 oc, .int .u8 2, .int .i64 op, .int .i64 oq], .int .i64 0]))
      clear hR hcq
      go_enter Try.func84, Try.ntmps84
      go_wp2_with fail
      refine (HG.out _ (by repeat' (first | (with_reducible exact Only.refl _ _) | (with_reducible assumption) | (refine Only.of_none ?_; with_reducible assumption) | (with_reducible refine Only.drewN ?_ _) | (with_reducible refine Only.drew ?_) | (with_reducible refine Only.alloc ?_ _) | (with_reducible refine Only.setCell ?_ ?_ _) | (with_reducible refine Only.then0 ?_ (by with_reducible assumption)) | (with_reducible refine Only.thenN ?_ (by with_reducible assumption) ?_) | (with_reducible refine Only.trans ?_ (by with_reducible assumption)) | (refine .inl ?_; first | rfl | (simp; done) | (simp [Ar.blk]; done)) | (refine .inr ?_; first | omega | (simp; done) | (simp; omega) | exact Only.size (by with_reducible assumption) | (refine Nat.le_trans (Only.size (by with_reducible assumption)) ?_; simp; done))))).mono ?_
      rintro e w1 ⟨rfl, o1⟩
      have h5 := h5.only o1 id; have y0 := h5.c0.cell; have y1 := h5.c1.cell; have y2 := h5.c2.cell; have y3 := h5.c3.cell; have y4 := h5.c4.cell; have yz := cell_lt y0
      have cr := (HR.out.only (show Only (fun _ => False) w w1 by repeat' (first | (with_reducible exact Only.refl _ _) | (with_reducible assumption) | (refine Only.of_none ?_; with_reducible assumption) | (with_reducible refine Only.drewN ?_ _) | (with_reducible refine Only.drew ?_) | (with_reducible refine Only.alloc ?_ _) | (with_reducible refine Only.setCell ?_ ?_ _) | (with_reducible refine Only.then0 ?_ (by with_reducible assumption)) | (with_reducible refine Only.thenN ?_ (by with_reducible assumption) ?_) | (with_reducible refine Only.trans ?_ (by with_reducible assumption)) | (refine .inl ?_; first | rfl | (simp; done) | (simp [Ar.blk]; done)) | (refine .inr ?_; first | omega | (simp; done) | (simp; omega) | exact Only.size (by with_reducible assumption) | (refine Nat.le_trans (Only.size (by with_reducible assumption)) ?_; simp; done)))) id).cell
      have zr := cell_lt cr
      have HO1 := Lib.hid (show Only (fun _ => False) w w1 by repeat' (first | (with_reducible exact Only.refl _ _) | (with_reducible assumption) | (refine Only.of_none ?_; with_reducible assumption) | (with_reducible refine Only.drewN ?_ _) | (with_reducible refine Only.drew ?_) | (with_reducible refine Only.alloc ?_ _) | (with_reducible refine Only.setCell ?_ ?_ _) | (with_reducible refine Only.then0 ?_ (by with_reducible assumption)) | (with_reducible refine Only.thenN ?_ (by with_reducible assumption) ?_) | (with_reducible refine Only.trans ?_ (by with_reducible assumption)) | (refine .inl ?_; first | rfl | (simp; done) | (simp [Ar.blk]; done)) | (refine .inr ?_; first | omega | (simp; done) | (simp; omega) | exact Only.size (by with_reducible assumption) | (refine Nat.le_trans (Only.size (by with_reducible assumption)) ?_; simp; done))))
      have HF8 := Lib.hid (Five.new w1 (.int .i64 oi) (.int .i64 oc) (.int .u8 2) (.int .i64 op) (.int .i64 oq) 54)
      have HH5 := Lib.hid h5
      have zw1 : w.heap.size < w1.heap.size := yz
      clear HG y0 y1 y2 y3 y4 yz h5
      go_wp2_with fail
      go_region_with (first | (go_at_call 134; refine (HPL.out _ (by have := HO1.out; repeat' (first | (with_reducible exact Only.refl _ _) | (with_reducible assumption) | (refine Only.of_none ?_; with_reducible assumption) | (with_reducible refine Only.drewN ?_ _) | (with_reducible refine Only.drew ?_) | (with_reducible refine Only.alloc ?_ _) | (with_reducible refine Only.setCell ?_ ?_ _) | (with_reducible refine Only.then0 ?_ (by with_reducible assumption)) | (with_reducible refine Only.thenN ?_ (by with_reducible assumption) ?_) | (with_reducible refine Only.trans ?_ (by with_reducible assumption)) | (refine .inl ?_; first | rfl | (simp; done) | (simp [Ar.blk]; done)) | (refine .inr ?_; first | omega | (simp; done) | (simp; omega) | exact Only.size (by with_reducible assumption) | (refine Nat.le_trans (Only.size (by with_reducible assumption)) ?_; simp; done))))).mono ?_; rintro e w6 ⟨rfl, rfl⟩) | (go_at_call 133; refine (HW.out _ (by have := HO1.out; repeat' (first | (with_reducible exact Only.refl _ _) | (with_reducible assumption) | (refine Only.of_none ?_; with_reducible assumption) | (with_reducible refine Only.drewN ?_ _) | (with_reducible refine Only.drew ?_) | (with_reducible refine Only.alloc ?_ _) | (with_reducible refine Only.setCell ?_ ?_ _) | (with_reducible refine Only.then0 ?_ (by with_reducible assumption)) | (with_reducible refine Only.thenN ?_ (by with_reducible assumption) ?_) | (with_reducible refine Only.trans ?_ (by with_reducible assumption)) | (refine .inl ?_; first | rfl | (simp; done) | (simp [Ar.blk]; done)) | (refine .inr ?_; first | omega | (simp; done) | (simp; omega) | exact Only.size (by with_reducible assumption) | (refine Nat.le_trans (Only.size (by with_reducible assumption)) ?_; simp; done))))).mono ?_; rintro e w7 ⟨v7, rfl, hv7, o7⟩; obtain ⟨b7, d7, rfl, _⟩ := own_slice hv7; have fr := (HR.out.only (show Only (fun _ => False) w w7 by have := HO1.out; repeat' (first | (with_reducible exact Only.refl _ _) | (with_reducible assumption) | (refine Only.of_none ?_; with_reducible assumption) | (with_reducible refine Only.drewN ?_ _) | (with_reducible refine Only.drew ?_) | (with_reducible refine Only.alloc ?_ _) | (with_reducible refine Only.setCell ?_ ?_ _) | (with_reducible refine Only.then0 ?_ (by with_reducible assumption)) | (with_reducible refine Only.thenN ?_ (by with_reducible assumption) ?_) | (with_reducible refine Only.trans ?_ (by with_reducible assumption)) | (refine .inl ?_; first | rfl | (simp; done) | (simp [Ar.blk]; done)) | (refine .inr ?_; first | omega | (simp; done) | (simp; omega) | exact Only.size (by with_reducible assumption) | (refine Nat.le_trans (Only.size (by with_reducible assumption)) ?_; simp; done)))) id).free; have zr := (HR.out.only (show Only (fun _ => False) w w7 by have := HO1.out; repeat' (first | (with_reducible exact Only.refl _ _) | (with_reducible assumption) | (refine Only.of_none ?_; with_reducible assumption) | (with_reducible refine Only.drewN ?_ _) | (with_reducible refine Only.drew ?_) | (with_reducible refine Only.alloc ?_ _) | (with_reducible refine Only.setCell ?_ ?_ _) | (with_reducible refine Only.then0 ?_ (by with_reducible assumption)) | (with_reducible refine Only.thenN ?_ (by with_reducible assumption) ?_) | (with_reducible refine Only.trans ?_ (by with_reducible assumption)) | (refine .inl ?_; first | rfl | (simp; done) | (simp [Ar.blk]; done)) | (refine .inr ?_; first | omega | (simp; done) | (simp; omega) | exact Only.size (by with_reducible assumption) | (refine Nat.le_trans (Only.size (by with_reducible assumption)) ?_; simp; done)))) id).lt; have cr7 := (HR.out.only (show Only (fun _ => False) w w7 by have := HO1.out; repeat' (first | (with_reducible exact Only.refl _ _) | (with_reducible assumption) | (refine Only.of_none ?_; with_reducible assumption) | (with_reducible refine Only.drewN ?_ _) | (with_reducible refine Only.drew ?_) | (with_reducible refine Only.alloc ?_ _) | (with_reducible refine Only.setCell ?_ ?_ _) | (with_reducible refine Only.then0 ?_ (by with_reducible assumption)) | (with_reducible refine Only.thenN ?_ (by with_reducible assumption) ?_) | (with_reducible refine Only.trans ?_ (by with_reducible assumption)) | (refine .inl ?_; first | rfl | (simp; done) | (simp [Ar.blk]; done)) | (refine .inr ?_; first | omega | (simp; done) | (simp; omega) | exact Only.size (by with_reducible assumption) | (refine Nat.le_trans (Only.size (by with_reducible assumption)) ?_; simp; done)))) id).cell; have OX := Lib.hid (show Only (fun _ => False) (w1.alloc (.cells #[.int .i64 oi, .int .i64 oc, .int .u8 2, .int .i64 op, .int .i64 oq] 54)) w7 by repeat' (first | (with_reducible exact Only.refl _ _) | (with_reducible assumption) | (refine Only.of_none ?_; with_reducible assumption) | (with_reducible refine Only.drewN ?_ _) | (with_reducible refine Only.drew ?_) | (with_reducible refine Only.alloc ?_ _) | (with_reducible refine Only.setCell ?_ ?_ _) | (with_reducible refine Only.then0 ?_ (by with_reducible assumption)) | (with_reducible refine Only.thenN ?_ (by with_reducible assumption) ?_) | (with_reducible refine Only.trans ?_ (by with_reducible assumption)) | (refine .inl ?_; first | rfl | (simp; done) | (simp [Ar.blk]; done)) | (refine .inr ?_; first | omega | (simp; done) | (simp; omega) | exact Only.size (by with_reducible assumption) | (refine Nat.le_trans (Only.size (by with_reducible assumption)) ?_; simp; done)))); have F7 := HF8.out.only OX.out id; have q0 := F7.c0.cell; have q1 := F7.c1.cell; have q2 := F7.c2.cell; have q3 := F7.c3.cell; have q4 := F7.c4.cell; have qz := cell_lt q0; have G7 := (HH5.out.only (show Only (fun _ => False) w1 w7 by repeat' (first | (with_reducible exact Only.refl _ _) | (with_reducible assumption) | (refine Only.of_none ?_; with_reducible assumption) | (with_reducible refine Only.drewN ?_ _) | (with_reducible refine Only.drew ?_) | (with_reducible refine Only.alloc ?_ _) | (with_reducible refine Only.setCell ?_ ?_ _) | (with_reducible refine Only.then0 ?_ (by with_reducible assumption)) | (with_reducible refine Only.thenN ?_ (by with_reducible assumption) ?_) | (with_reducible refine Only.trans ?_ (by with_reducible assumption)) | (refine .inl ?_; first | rfl | (simp; done) | (simp [Ar.blk]; done)) | (refine .inr ?_; first | omega | (simp; done) | (simp; omega) | exact Only.size (by with_reducible assumption) | (refine Nat.le_trans (Only.size (by with_reducible assumption)) ?_; simp; done)))) id); have y0 := G7.c0.cell; have y1 := G7.c1.cell; have y2 := G7.c2.cell; have y3 := G7.c3.cell; have y4 := G7.c4.cell; have f0 := G7.c0.free; have f1 := G7.c1.free; have f2 := G7.c2.free; have f3 := G7.c3.free; have f4 := G7.c4.free; have HV7 := Lib.hid hv7; clear hv7 F7 G7))
      all_goals (
        go_wp2_with fail
        have G7 := HH5.out.only (show Only (fun _ => False) w1 w7 from ((Only.refl _ _).alloc _).trans OX.out) id
        have G8 := G7.only ((Only.refl (· = r) w7).setCell (p := ⟨r, 3, none⟩) (.inl rfl) (.slice b7 M.length d7)) (fun e => by omega)
        have G9 := G8.put (.int .i64 oi) (.int .i64 oc) (.int .u8 2) (.int .i64 op) (.int .i64 oq)
        have g0 := G9.c0.cell; have g1 := G9.c1.cell; have g2 := G9.c2.cell; have g3 := G9.c3.cell; have g4 := G9.c4.cell
        refine bodyPost_ret (by simp [results, Try.results84, go_sem, g0, g1, g2, g3, g4]; try rfl) rfl ?_
        exact (HP.out w1 HO1.out w7 (((Only.refl _ _).alloc _).trans OX.out) _ (ownsRow_base HV7.out (by simp))).wrap HO1.out (put5_only (S := (· = w.heap.size)) (Only.refl _ _) (.inl rfl) _ _ _ _ _) (fun i hi => by subst hi; exact ⟨Nat.le_refl _, zw1⟩) HT)
end
end Go.Proofs.Ytilngakgofjmpaa
