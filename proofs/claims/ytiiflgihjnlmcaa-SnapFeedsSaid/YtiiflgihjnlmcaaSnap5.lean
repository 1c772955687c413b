/- Package snap: Fold. Conditions: the numbers are of their kinds. -/
import Derived.Test.YtiiflgihjnlmcaaSnap4
import Derived.Laws.EntriesVeiled
import Derived.StillTailTactics
namespace Go.Proofs.Ytiiflgihjnlmcaa
set_option linter.unusedVariables false
set_option linter.unusedSimpArgs false
open Go.RowKit

/-- One feed: what it leaves, if it may. -/
def Sn.step (s : Sn) (x : Int × Int × Int) : Option Sn := (s.raw x.1 x.2.1 x.2.2).bind fun t => if t.ok = true then some t else none
/-- Feeds, one behind the other. -/
def foldL (s : Sn) : List (Int × Int × Int) → Option Sn
  | [] => some s
  | x :: t => (s.step x).bind fun u => foldL u t
def foldP (s : Sn) (l : List (Int × Int × Int)) : Option Sn := if s.ok = true then foldL s l else none
theorem foldL_append (s : Sn) (l m : List (Int × Int × Int)) : foldL s (l ++ m) = (foldL s l).bind fun u => foldL u m := by
  induction l generalizing s with
  | nil => rfl
  | cons x t ih =>
    simp only [List.cons_append, foldL]
    cases s.step x with
    | none => rfl
    | some u => exact ih u
theorem step_ok {s t : Sn} {x : Int × Int × Int} (h : s.step x = some t) : t.ok = true := by
  unfold Sn.step at h
  cases h1 : s.raw x.1 x.2.1 x.2.2 with
  | none => rw [h1] at h; cases h
  | some u =>
    rw [h1] at h
    simp only [Option.bind_some] at h
    by_cases h2 : u.ok = true
    · rw [if_pos h2] at h; cases h; exact h2
    · rw [if_neg h2] at h; cases h
theorem foldL_ok {s t : Sn} {l : List (Int × Int × Int)} (h0 : s.ok = true) (h : foldL s l = some t) : t.ok = true := by
  induction l generalizing s with
  | nil => cases h; exact h0
  | cons x r ih =>
    simp only [foldL] at h
    cases h1 : s.step x with
    | none => rw [h1] at h; cases h
    | some u => rw [h1] at h; exact ih (step_ok h1) h
theorem foldP_ok {s t : Sn} {l : List (Int × Int × Int)} (h : foldP s l = some t) : t.ok = true := by
  unfold foldP at h
  by_cases h0 : s.ok = true
  · rw [if_pos h0] at h; exact foldL_ok h0 h
  · rw [if_neg h0] at h; cases h
theorem foldP_snoc (s : Sn) (l : List (Int × Int × Int)) (x : Int × Int × Int) : foldP s (l ++ [x]) = (foldP s l).bind fun t => t.step x := by
  unfold foldP
  by_cases h0 : s.ok = true
  · rw [if_pos h0, if_pos h0, foldL_append]
    cases foldL s l with
    | none => rfl
    | some u => simp only [Option.bind_some, foldL]; cases u.step x <;> rfl
  · rw [if_neg h0, if_neg h0]; rfl

/-- Feeds lie there. -/
def FeedsAt (w : World) (a : Option Addr) (xs : List (Int × Int × Int)) : Prop :=
  ∀ i x, xs[i]? = some x → ∃ B off, a = some ⟨B, off, none⟩ ∧ w.cell? ⟨B, off + i * 3, none⟩ = some (.int .u8 x.1) ∧ w.cell? ⟨B, off + i * 3 + 1, none⟩ = some (.int .i64 x.2.1) ∧ w.cell? ⟨B, off + i * 3 + 2, none⟩ = some (.int .i64 x.2.2)
theorem FeedsAt.only {w w' : World} {a : Option Addr} {xs : List (Int × Int × Int)} (h : FeedsAt w a xs) {S : Nat → Prop} (ho : Only S w w') (hS : ∀ i, i < w.heap.size → ¬ S i) : FeedsAt w' a xs := fun i x hx => by
  obtain ⟨B, off, ha, h1, h2, h3⟩ := h i x hx
  exact ⟨B, off, ha, ho.cell h1 (hS _ (cell_lt h1)), ho.cell h2 (hS _ (cell_lt h1)), ho.cell h3 (hS _ (cell_lt h1))⟩
/-- Each number of a feed is of its kind. -/
def FeedOk (x : Int × Int × Int) : Prop := (0 ≤ x.1 ∧ x.1 ≤ 255) ∧ I64 x.2.1 ∧ I64 x.2.2

def Sn.seven (s : Sn) : Nat → Int := sev s.a0 s.a1 s.a2 s.a3 s.a4 s.a5
def Sn.mask (s t : Sn) : Nat := maskN s.seven t.seven 7
def Sn.zero : Sn := ⟨0, 0, 0, 0, 0, 0⟩
/-- Fold's answer. -/
def foldV (s : Sn) : Option Sn → Value
  | some t => .tuple #[t.v, .int .u16 (s.mask t : Nat), .int .i64 0]
  | none => .tuple #[Sn.zero.v, .int .u16 0, .int .i64 100]

def tabV : Array Value := #[.nilFunc, .func (.func 98) #[] #[], .func (.func 99) #[] #[], .func (.func 100) #[] #[], .func (.func 101) #[] #[], .func (.func 102) #[] #[]]

theorem MPost.none {o : Nat} {w w' : World} {e : Ending} (h : MPost o w none e w') : e = .returned (.bool false) ∧ Only (· = o) w w' := ⟨h.1, h.2.2⟩
theorem MPost.some {o : Nat} {w w' : World} {e : Ending} {u : Sn} (h : MPost o w (some u) e w') : e = .returned (.bool true) ∧ SnAt w' o u ∧ Only (· = o) w w' := ⟨h.1, h.2.1 u rfl, h.2.2⟩
theorem check_sn (u : Sn) (w : World) : Calls Try.prog 45 #[.agg #[.int .i64 u.a0, .int .i64 u.a1, .int .i64 u.a2, .int .i64 u.a3, .int .i64 u.a4, .int .i64 u.a5]] w fun e w' => e = .returned (.int .i64 (if u.ok = true then 0 else 100)) ∧ Only (fun _ => False) w w' := s_check _ _ _ _ _ _ w
theorem Sn.ok_bounds {t : Sn} (h : t.ok = true) : (0 ≤ t.a3 ∧ t.a3 ≤ 1000000000000000) ∧ I64 t.a5 := by
  simp only [Sn.ok, snOk, Bool.and_eq_true, okI_iff] at h
  unfold I64
  omega

/-- What lies there while feeds are folded. -/
structure FoldR (w W : World) (s : Sn) (r : Option Sn) : Prop where
  only : Only (fun _ => False) w W
  cx : ∀ k v, (#[.int .i64 s.a0, .int .i64 s.a1, .int .i64 s.a2, .int .i64 s.a3, .int .i64 s.a4, .int .i64 s.a5] : Array Value)[k]? = some v → Cell W w.heap.size k v
  cz : ∀ k v, (#[.int .i64 0, .int .i64 0, .int .i64 0, .int .i64 0, .int .i64 0, .int .i64 0] : Array Value)[k]? = some v → Cell W (w.heap.size + 1) k v
  ct : ∀ k v, tabV[k]? = some v → Cell W (w.heap.size + 1 + 1) k v
  co : ∀ t, r = some t → SnAt W (w.heap.size + 1 + 1 + 1) t
  sz : w.heap.size + 1 + 1 + 1 < W.heap.size
theorem FoldR.step {w W W' : World} {s : Sn} {r r' : Option Sn} (h : FoldR w W s r) (ho : Only (· = w.heap.size + 1 + 1 + 1) W W') (hs : ∀ t, r' = some t → SnAt W' (w.heap.size + 1 + 1 + 1) t) : FoldR w W' s r' :=
  ⟨h.only.trans' ho (fun i hi e => by omega), fun k v hv => (h.cx k v hv).only ho (by omega), fun k v hv => (h.cz k v hv).only ho (by omega), fun k v hv => (h.ct k v hv).only ho (by omega), hs, Nat.lt_of_lt_of_le h.sz ho.size⟩
theorem FoldR.keep {w W W' : World} {s : Sn} {r : Option Sn} (h : FoldR w W s r) (ho : Only (fun _ => False) W W') : FoldR w W' s r :=
  ⟨h.only.trans ho, fun k v hv => (h.cx k v hv).only ho id, fun k v hv => (h.cz k v hv).only ho id, fun k v hv => (h.ct k v hv).only ho id, fun t ht => (h.co t ht).only ho id, Nat.lt_of_lt_of_le h.sz ho.size⟩

theorem six_set {w : World} {b : Nat} {v0 v1 v2 v3 v4 v5 : Value} (h0 : Cell w b 0 v0) (h1 : Cell w b 1 v1) (h2 : Cell w b 2 v2) (h3 : Cell w b 3 v3) (h4 : Cell w b 4 v4) (h5 : Cell w b 5 v5) (u0 u1 u2 u3 u4 u5 : Value) :
    ∀ k u, (#[u0, u1, u2, u3, u4, u5] : Array Value)[k]? = some u → ((((((w.setCell ⟨b, 0, none⟩ u0).setCell ⟨b, 1, none⟩ u1).setCell ⟨b, 2, none⟩ u2).setCell ⟨b, 3, none⟩ u3).setCell ⟨b, 4, none⟩ u4).setCell ⟨b, 5, none⟩ u5).cell? ⟨b, k, none⟩ = some u := by
  intro k u hu
  have ne : ∀ {i j : Nat}, i ≠ j → (⟨b, i, none⟩ : Addr) ≠ ⟨b, j, none⟩ := fun h => off_ne h
  match k with
  | 0 => cases hu; exact ((((((h0.set _).far (ne (by decide)) _).far (ne (by decide)) _).far (ne (by decide)) _).far (ne (by decide)) _).far (ne (by decide)) _).cell
  | 1 => cases hu; exact ((((((h1.far (ne (by decide)) _).set _).far (ne (by decide)) _).far (ne (by decide)) _).far (ne (by decide)) _).far (ne (by decide)) _).cell
  | 2 => cases hu; exact ((((((h2.far (ne (by decide)) _).far (ne (by decide)) _).set _).far (ne (by decide)) _).far (ne (by decide)) _).far (ne (by decide)) _).cell
  | 3 => cases hu; exact ((((((h3.far (ne (by decide)) _).far (ne (by decide)) _).far (ne (by decide)) _).set _).far (ne (by decide)) _).far (ne (by decide)) _).cell
  | 4 => cases hu; exact ((((((h4.far (ne (by decide)) _).far (ne (by decide)) _).far (ne (by decide)) _).far (ne (by decide)) _).set _).far (ne (by decide)) _).cell
  | 5 => cases hu; exact ((((((h5.far (ne (by decide)) _).far (ne (by decide)) _).far (ne (by decide)) _).far (ne (by decide)) _).far (ne (by decide)) _).set _).cell
  | k + 6 => simp at hu

set_option maxHeartbeats 8000000 in
set_option maxRecDepth 100000 in
theorem s_fold (s : Sn) (a : Option Addr) (n cap : Nat) (xs : List (Int × Int × Int)) (hn : xs.length = n) (hk : ∀ x ∈ xs, FeedOk x) (hlen : n ≤ 4398046511104) (w : World) (hx : FeedsAt w a xs) :
    Calls Try.prog 54 #[s.v, .slice a n cap] w fun e w' => e = .returned (foldV s (foldP s xs)) ∧ Only (fun _ => False) w w' := by
  obtain ⟨x0, x1, x2, x3, x4, x5⟩ := s
  have HC := fun W => Lib.hid (s_check x0 x1 x2 x3 x4 x5 W)
  show Calls Try.prog 54 #[.agg #[.int .i64 x0, .int .i64 x1, .int .i64 x2, .int .i64 x3, .int .i64 x4, .int .i64 x5], .slice a n cap] w _
  obtain ⟨okb, hokb⟩ : ∃ okb, okb = snOk x0 x1 x2 x3 x4 x5 := ⟨_, rfl⟩
  rw [← hokb] at HC
  have t0 : ((if okb = true then (0 : Int) else 100) == 0) = okb := by cases okb <;> rfl
  obtain ⟨cv, hcv⟩ : ∃ cv : Int, cv = if okb = true then (0 : Int) else 100 := ⟨_, rfl⟩
  rw [← hcv] at HC t0
  clear hcv
  go_enter Try.func54, Try.ntmps54
  go_wp2_with fail
  refine (HC _).out.mono ?_
  rintro e w1 ⟨rfl, o1⟩
  have t1 : (okb == okb) = true := by simp
  have hR0 : FoldR w w1 ⟨x0, x1, x2, x3, x4, x5⟩ (foldP ⟨x0, x1, x2, x3, x4, x5⟩ (xs.take 0)) := by
    refine ⟨(((((Only.refl _ w).alloc _).alloc _).alloc _).alloc _).trans o1, fun k v hv => ((((Cell.new hv).alloc _).alloc _).alloc _).only o1 id, fun k v hv => ?_, fun k v hv => ?_, fun t ht => ?_, Nat.lt_of_lt_of_le (by simp) o1.size⟩
    · have := (((Cell.new (w := w.alloc (.cells #[.int .i64 x0, .int .i64 x1, .int .i64 x2, .int .i64 x3, .int .i64 x4, .int .i64 x5] 70)) (t := 70) hv).alloc _).alloc _).only o1 id
      rwa [World.size_alloc] at this
    · have := ((Cell.new (w := (w.alloc (.cells #[.int .i64 x0, .int .i64 x1, .int .i64 x2, .int .i64 x3, .int .i64 x4, .int .i64 x5] 70)).alloc (.cells #[.int .i64 0, .int .i64 0, .int .i64 0, .int .i64 0, .int .i64 0, .int .i64 0] 70)) (t := 168) hv).alloc _).only o1 id
      rwa [World.size_alloc, World.size_alloc] at this
    · have c : ∀ k v, (#[.int .i64 x0, .int .i64 x1, .int .i64 x2, .int .i64 x3, .int .i64 x4, .int .i64 x5] : Array Value)[k]? = some v → Cell w1 (w.heap.size + 1 + 1 + 1) k v := fun k v hv => by
        have := (Cell.new (w := ((w.alloc (.cells #[.int .i64 x0, .int .i64 x1, .int .i64 x2, .int .i64 x3, .int .i64 x4, .int .i64 x5] 70)).alloc (.cells #[.int .i64 0, .int .i64 0, .int .i64 0, .int .i64 0, .int .i64 0, .int .i64 0] 70)).alloc (.cells tabV 168)) (t := 170) hv).only o1 id
        rwa [World.size_alloc, World.size_alloc, World.size_alloc] at this
      have ht2 : t = ⟨x0, x1, x2, x3, x4, x5⟩ := by
        rw [List.take_zero] at ht
        unfold foldP foldL at ht
        split at ht <;> cases ht
        rfl
      subst ht2
      exact ⟨c 0 _ rfl, c 1 _ rfl, c 2 _ rfl, c 3 _ rfl, c 4 _ rfl, c 5 _ rfl⟩
  have e0 : (foldP ⟨x0, x1, x2, x3, x4, x5⟩ (xs.take 0)).isSome = okb := by
    rw [List.take_zero, hokb]
    unfold foldP foldL
    show (if snOk x0 x1 x2 x3 x4 x5 = true then _ else _ : Option Sn).isSome = _
    cases snOk x0 x1 x2 x3 x4 x5 <;> rfl
  have HS0 := Lib.hid hR0
  have E0 := Lib.hid e0
  clear hR0 e0 hokb
  obtain ⟨s, hs⟩ : ∃ s : Sn, s = ⟨x0, x1, x2, x3, x4, x5⟩ := ⟨_, rfl⟩
  rw [← hs] at HS0 E0
  have HS := Lib.hid hs
  clear hs HC o1
  go_wp2_with fail
  go_loopw [9, 21] (fun s9 s21 wr => ∃ j : Nat, j ≤ n ∧ s21 = .int .i64 j ∧ s9 = .bool (foldP s (xs.take j)).isSome ∧ FoldR w wr s (foldP s (xs.take j))) (fun _ s _ => n - (intOf s).toNat)
  case atStart => exact ⟨0, by omega, rfl, by rw [E0.out], HS0.out⟩
  case round =>
    clear HS0 E0
    obtain ⟨j, hj, rfl, rfl, hR⟩ := hrel
    have HR := Lib.hid hR
    have hsz := hR.sz
    by_cases hlt : j < n
    · have t2 : decide (j < n) = true := by simpa using hlt
      obtain ⟨x, hxj⟩ : ∃ x, xs[j]? = some x := ⟨_, List.getElem?_eq_getElem (by omega)⟩
      obtain ⟨B, off, rfl, f0, f1, f2⟩ := (hx.only hR.only (fun _ _ => id)) j x hxj
      have hko := hk x (List.mem_of_getElem? hxj)
      have etk : xs.take (j + 1) = xs.take j ++ [x] := by rw [List.take_add_one, hxj]; rfl
      obtain ⟨kd, a1, b1⟩ := x
      simp only at f0 f1 f2
      have hko1 : 0 ≤ kd := hko.1.1
      have hko2 : kd ≤ 255 := hko.1.2
      have hk2 : I64 a1 := hko.2.1
      have hk3 : I64 b1 := hko.2.2
      have zB := cell_lt f0
      have i1 : (0 : Int) ≤ (j : Int) ∧ (j : Int) < (n : Int) := by omega
      clear hko hxj
      cases ht : foldP s (xs.take j) with
      | none =>
        have HE := Lib.hid (show foldP s (xs.take (j + 1)) = none from by rw [etk, foldP_snoc, ht]; rfl)
        clear ht hR etk
        simp only [Option.isSome_none]
        go_wp2_with fail
        go_quiet (fail)
        go_wp2_with fail
        go_roundw
        case rel => exact ⟨j + 1, by omega, by go_num, by rw [HE.out]; rfl, by rw [HE.out]; exact HR.out.step (Only.of_none (by repeat' (first | (with_reducible exact Only.refl _ _) | (with_reducible assumption) | (refine Only.of_none ?_; with_reducible assumption) | (with_reducible refine Only.drewN ?_ _) | (with_reducible refine Only.drew ?_) | (with_reducible refine Only.alloc ?_ _) | (with_reducible refine Only.setCell ?_ ?_ _) | (with_reducible refine Only.then0 ?_ (by with_reducible assumption)) | (with_reducible refine Only.thenN ?_ (by with_reducible assumption) ?_) | (with_reducible refine Only.trans ?_ (by with_reducible assumption)) | (refine .inl ?_; first | rfl | (simp; done) | (simp [Ar.blk]; done)) | (refine .inr ?_; first | omega | (simp; done) | (simp; omega) | exact Only.size (by with_reducible assumption) | (refine Nat.le_trans (Only.size (by with_reducible assumption)) ?_; simp; done))))) (fun t h => by cases h)⟩
        case measure => simp [intOf]; omega
      | some t =>
        have hv := Sn.ok_bounds (foldP_ok ht)
        have hv3 := hv.1
        have hv5 := hv.2
        simp only [Option.isSome_some]
        have T1 : wr.cell? ⟨w.heap.size + 1 + 1, 1, none⟩ = some (.func (.func 98) #[] #[]) := (hR.ct 1 _ rfl).cell
        have T2 : wr.cell? ⟨w.heap.size + 1 + 1, 2, none⟩ = some (.func (.func 99) #[] #[]) := (hR.ct 2 _ rfl).cell
        have T3 : wr.cell? ⟨w.heap.size + 1 + 1, 3, none⟩ = some (.func (.func 100) #[] #[]) := (hR.ct 3 _ rfl).cell
        have T4 : wr.cell? ⟨w.heap.size + 1 + 1, 4, none⟩ = some (.func (.func 101) #[] #[]) := (hR.ct 4 _ rfl).cell
        have T5 : wr.cell? ⟨w.heap.size + 1 + 1, 5, none⟩ = some (.func (.func 102) #[] #[]) := (hR.ct 5 _ rfl).cell
        have zT := cell_lt T1
        by_cases q1 : kd = 1
        · subst q1
          have HM := fun W (hW : Only (fun _ => False) wr W) => Lib.hid (s_bid (w.heap.size + 1 + 1 + 1) t a1 b1 W ((hR.co t ht).only hW id))
          cases hraw : t.raw 1 a1 b1 with
          | none =>
            exact absurd hraw (by unfold Sn.raw; simp)
          | some u =>
            rw [hraw] at HM
            by_cases hu : u.ok = true
            · have HE := Lib.hid (show foldP s (xs.take (j + 1)) = some u from by rw [etk, foldP_snoc, ht]; simp only [Option.bind_some, Sn.step, hraw, if_pos hu])
              have HK := fun W => Lib.hid (check_sn u W)
              rw [if_pos hu] at HK
              clear hraw ht hu
              as_aux_lemma =>
                go_upto_region 7 with fail
                have hC : ∀ q v, (#[.int .u8 1, .int .i64 a1, .int .i64 b1] : Array Value)[q]? = some v → Cell (wr.alloc (.cells #[.int .u8 1, .int .i64 a1, .int .i64 b1] 158)) wr.heap.size q v := fun q v hv => Cell.new hv
                have oW0 := (Only.refl (fun _ => False) wr).alloc (.cells #[.int .u8 1, .int .i64 a1, .int .i64 b1] 158)
                obtain ⟨W0, hW0⟩ : ∃ W0, wr.alloc (.cells #[.int .u8 1, .int .i64 a1, .int .i64 b1] 158) = W0 := ⟨_, rfl⟩
                rw [hW0] at hC oW0 ⊢
                clear hW0
                obtain ⟨gx, hgx⟩ : ∃ gx, wr.heap.size = gx := ⟨_, rfl⟩
                rw [hgx] at hC ⊢
                have k0 := (hC 0 _ rfl).cell
                have k1 := (hC 1 _ rfl).cell
                have k2 := (hC 2 _ rfl).cell
                have k4 := oW0.cell T1 id
                have hne : gx ≠ w.heap.size + 1 + 1 + 1 := by omega
                clear hC T1 T2 T3 T4 T5
                have KEEP := fun W (o : Only (· = w.heap.size + 1 + 1 + 1) W0 W) => Lib.hid (show W.cell? ⟨gx, 0, none⟩ = some (.int .u8 1) ∧ W.cell? ⟨gx, 1, none⟩ = some (.int .i64 a1) ∧ W.cell? ⟨gx, 2, none⟩ = some (.int .i64 b1) ∧ W.cell? ⟨w.heap.size + 1 + 1, 1, none⟩ = some (.func (.func 98) #[] #[]) from ⟨o.cell k0 hne, o.cell k1 hne, o.cell k2 hne, o.cell k4 (by omega)⟩)
                go_still_tail 19, (by kernel_rfl)
                change wpList _ _ _ _ _ W0.drew
                go_wp2_with (first | (go_at_call 98; refine (HM _ (oW0.trans (by repeat' (first | (with_reducible exact Only.refl _ _) | (with_reducible assumption) | (refine Only.of_none ?_; with_reducible assumption) | (with_reducible refine Only.drewN ?_ _) | (with_reducible refine Only.drew ?_) | (with_reducible refine Only.alloc ?_ _) | (with_reducible refine Only.setCell ?_ ?_ _) | (with_reducible refine Only.then0 ?_ (by with_reducible assumption)) | (with_reducible refine Only.thenN ?_ (by with_reducible assumption) ?_) | (with_reducible refine Only.trans ?_ (by with_reducible assumption)) | (refine .inl ?_; first | rfl | (simp; done) | (simp [Ar.blk]; done)) | (refine .inr ?_; first | omega | (simp; done) | (simp; omega) | exact Only.size (by with_reducible assumption) | (refine Nat.le_trans (Only.size (by with_reducible assumption)) ?_; simp; done)))))).out.mono ?_; intro e w6 h6; obtain ⟨rfl, hu6, o6⟩ := h6.some; have d0 := hu6.c0.cell; have d1 := hu6.c1.cell; have d2 := hu6.c2.cell; have d3 := hu6.c3.cell; have d4 := hu6.c4.cell; have d5 := hu6.c5.cell; have z6 := cell_lt d0; clear h6) | (go_at_call 45; refine (HK _).out.mono ?_; rintro e w7 ⟨rfl, o7⟩))
                all_goals
                  go_wp2_with fail
                  go_roundw
                  case rel => exact ⟨j + 1, by omega, by go_num, by rw [HE.out]; rfl, by rw [HE.out]; exact HR.out.step ((Only.of_none oW0).trans (Only.then0 (Only.trans (Only.of_none (by repeat' (first | (with_reducible exact Only.refl _ _) | (with_reducible assumption) | (refine Only.of_none ?_; with_reducible assumption) | (with_reducible refine Only.drewN ?_ _) | (with_reducible refine Only.drew ?_) | (with_reducible refine Only.alloc ?_ _) | (with_reducible refine Only.setCell ?_ ?_ _) | (with_reducible refine Only.then0 ?_ (by with_reducible assumption)) | (with_reducible refine Only.thenN ?_ (by with_reducible assumption) ?_) | (with_reducible refine Only.trans ?_ (by with_reducible assumption)) | (refine .inl ?_; first | rfl | (simp; done) | (simp [Ar.blk]; done)) | (refine .inr ?_; first | omega | (simp; done) | (simp; omega) | exact Only.size (by with_reducible assumption) | (refine Nat.le_trans (Only.size (by with_reducible assumption)) ?_; simp; done))))) o6) (by repeat' (first | (with_reducible exact Only.refl _ _) | (with_reducible assumption) | (refine Only.of_none ?_; with_reducible assumption) | (with_reducible refine Only.drewN ?_ _) | (with_reducible refine Only.drew ?_) | (with_reducible refine Only.alloc ?_ _) | (with_reducible refine Only.setCell ?_ ?_ _) | (with_reducible refine Only.then0 ?_ (by with_reducible assumption)) | (with_reducible refine Only.thenN ?_ (by with_reducible assumption) ?_) | (with_reducible refine Only.trans ?_ (by with_reducible assumption)) | (refine .inl ?_; first | rfl | (simp; done) | (simp [Ar.blk]; done)) | (refine .inr ?_; first | omega | (simp; done) | (simp; omega) | exact Only.size (by with_reducible assumption) | (refine Nat.le_trans (Only.size (by with_reducible assumption)) ?_; simp; done)))))) (fun t h => by cases h; exact hu6.only (S := fun _ => False) (by repeat' (first | (with_reducible exact Only.refl _ _) | (with_reducible assumption) | (refine Only.of_none ?_; with_reducible assumption) | (with_reducible refine Only.drewN ?_ _) | (with_reducible refine Only.drew ?_) | (with_reducible refine Only.alloc ?_ _) | (with_reducible refine Only.setCell ?_ ?_ _) | (with_reducible refine Only.then0 ?_ (by with_reducible assumption)) | (with_reducible refine Only.thenN ?_ (by with_reducible assumption) ?_) | (with_reducible refine Only.trans ?_ (by with_reducible assumption)) | (refine .inl ?_; first | rfl | (simp; done) | (simp [Ar.blk]; done)) | (refine .inr ?_; first | omega | (simp; done) | (simp; omega) | exact Only.size (by with_reducible assumption) | (refine Nat.le_trans (Only.size (by with_reducible assumption)) ?_; simp; done)))) id)⟩
                  case measure => simp [intOf]; omega
            · have HE := Lib.hid (show foldP s (xs.take (j + 1)) = none from by rw [etk, foldP_snoc, ht]; simp only [Option.bind_some, Sn.step, hraw, if_neg hu])
              have HK := fun W => Lib.hid (check_sn u W)
              rw [if_neg hu] at HK
              clear hraw ht hu
              as_aux_lemma =>
                go_upto_region 7 with fail
                have hC : ∀ q v, (#[.int .u8 1, .int .i64 a1, .int .i64 b1] : Array Value)[q]? = some v → Cell (wr.alloc (.cells #[.int .u8 1, .int .i64 a1, .int .i64 b1] 158)) wr.heap.size q v := fun q v hv => Cell.new hv
                have oW0 := (Only.refl (fun _ => False) wr).alloc (.cells #[.int .u8 1, .int .i64 a1, .int .i64 b1] 158)
                obtain ⟨W0, hW0⟩ : ∃ W0, wr.alloc (.cells #[.int .u8 1, .int .i64 a1, .int .i64 b1] 158) = W0 := ⟨_, rfl⟩
                rw [hW0] at hC oW0 ⊢
                clear hW0
                obtain ⟨gx, hgx⟩ : ∃ gx, wr.heap.size = gx := ⟨_, rfl⟩
                rw [hgx] at hC ⊢
                have k0 := (hC 0 _ rfl).cell
                have k1 := (hC 1 _ rfl).cell
                have k2 := (hC 2 _ rfl).cell
                have k4 := oW0.cell T1 id
                have hne : gx ≠ w.heap.size + 1 + 1 + 1 := by omega
                clear hC T1 T2 T3 T4 T5
                have KEEP := fun W (o : Only (· = w.heap.size + 1 + 1 + 1) W0 W) => Lib.hid (show W.cell? ⟨gx, 0, none⟩ = some (.int .u8 1) ∧ W.cell? ⟨gx, 1, none⟩ = some (.int .i64 a1) ∧ W.cell? ⟨gx, 2, none⟩ = some (.int .i64 b1) ∧ W.cell? ⟨w.heap.size + 1 + 1, 1, none⟩ = some (.func (.func 98) #[] #[]) from ⟨o.cell k0 hne, o.cell k1 hne, o.cell k2 hne, o.cell k4 (by omega)⟩)
                go_still_tail 19, (by kernel_rfl)
                change wpList _ _ _ _ _ W0.drew
                go_wp2_with (first | (go_at_call 98; refine (HM _ (oW0.trans (by repeat' (first | (with_reducible exact Only.refl _ _) | (with_reducible assumption) | (refine Only.of_none ?_; with_reducible assumption) | (with_reducible refine Only.drewN ?_ _) | (with_reducible refine Only.drew ?_) | (with_reducible refine Only.alloc ?_ _) | (with_reducible refine Only.setCell ?_ ?_ _) | (with_reducible refine Only.then0 ?_ (by with_reducible assumption)) | (with_reducible refine Only.thenN ?_ (by with_reducible assumption) ?_) | (with_reducible refine Only.trans ?_ (by with_reducible assumption)) | (refine .inl ?_; first | rfl | (simp; done) | (simp [Ar.blk]; done)) | (refine .inr ?_; first | omega | (simp; done) | (simp; omega) | exact Only.size (by with_reducible assumption) | (refine Nat.le_trans (Only.size (by with_reducible assumption)) ?_; simp; done)))))).out.mono ?_; intro e w6 h6; obtain ⟨rfl, hu6, o6⟩ := h6.some; have d0 := hu6.c0.cell; have d1 := hu6.c1.cell; have d2 := hu6.c2.cell; have d3 := hu6.c3.cell; have d4 := hu6.c4.cell; have d5 := hu6.c5.cell; have z6 := cell_lt d0; clear h6) | (go_at_call 45; refine (HK _).out.mono ?_; rintro e w7 ⟨rfl, o7⟩))
                all_goals
                  go_wp2_with fail
                  go_roundw
                  case rel => exact ⟨j + 1, by omega, by go_num, by rw [HE.out]; rfl, by rw [HE.out]; exact HR.out.step ((Only.of_none oW0).trans (Only.then0 (Only.trans (Only.of_none (by repeat' (first | (with_reducible exact Only.refl _ _) | (with_reducible assumption) | (refine Only.of_none ?_; with_reducible assumption) | (with_reducible refine Only.drewN ?_ _) | (with_reducible refine Only.drew ?_) | (with_reducible refine Only.alloc ?_ _) | (with_reducible refine Only.setCell ?_ ?_ _) | (with_reducible refine Only.then0 ?_ (by with_reducible assumption)) | (with_reducible refine Only.thenN ?_ (by with_reducible assumption) ?_) | (with_reducible refine Only.trans ?_ (by with_reducible assumption)) | (refine .inl ?_; first | rfl | (simp; done) | (simp [Ar.blk]; done)) | (refine .inr ?_; first | omega | (simp; done) | (simp; omega) | exact Only.size (by with_reducible assumption) | (refine Nat.le_trans (Only.size (by with_reducible assumption)) ?_; simp; done))))) o6) (by repeat' (first | (with_reducible exact Only.refl _ _) | (with_reducible assumption) | (refine Only.of_none ?_; with_reducible assumption) | (with_reducible refine Only.drewN ?_ _) | (with_reducible refine Only.drew ?_) | (with_reducible refine Only.alloc ?_ _) | (with_reducible refine Only.setCell ?_ ?_ _) | (with_reducible refine Only.then0 ?_ (by with_reducible assumption)) | (with_reducible refine Only.thenN ?_ (by with_reducible assumption) ?_) | (with_reducible refine Only.trans ?_ (by with_reducible assumption)) | (refine .inl ?_; first | rfl | (simp; done) | (simp [Ar.blk]; done)) | (refine .inr ?_; first | omega | (simp; done) | (simp; omega) | exact Only.size (by with_reducible assumption) | (refine Nat.le_trans (Only.size (by with_reducible assumption)) ?_; simp; done)))))) (fun t h => by cases h)⟩
                  case measure => simp [intOf]; omega
        by_cases q2 : kd = 2
        · subst q2
          have HM := fun W (hW : Only (fun _ => False) wr W) => Lib.hid (s_ask (w.heap.size + 1 + 1 + 1) t a1 b1 W ((hR.co t ht).only hW id))
          cases hraw : t.raw 2 a1 b1 with
          | none =>
            exact absurd hraw (by unfold Sn.raw; simp)
          | some u =>
            rw [hraw] at HM
            by_cases hu : u.ok = true
            · have HE := Lib.hid (show foldP s (xs.take (j + 1)) = some u from by rw [etk, foldP_snoc, ht]; simp only [Option.bind_some, Sn.step, hraw, if_pos hu])
              have HK := fun W => Lib.hid (check_sn u W)
              rw [if_pos hu] at HK
              clear hraw ht hu
              as_aux_lemma =>
                go_upto_region 7 with fail
                have hC : ∀ q v, (#[.int .u8 2, .int .i64 a1, .int .i64 b1] : Array Value)[q]? = some v → Cell (wr.alloc (.cells #[.int .u8 2, .int .i64 a1, .int .i64 b1] 158)) wr.heap.size q v := fun q v hv => Cell.new hv
                have oW0 := (Only.refl (fun _ => False) wr).alloc (.cells #[.int .u8 2, .int .i64 a1, .int .i64 b1] 158)
                obtain ⟨W0, hW0⟩ : ∃ W0, wr.alloc (.cells #[.int .u8 2, .int .i64 a1, .int .i64 b1] 158) = W0 := ⟨_, rfl⟩
                rw [hW0] at hC oW0 ⊢
                clear hW0
                obtain ⟨gx, hgx⟩ : ∃ gx, wr.heap.size = gx := ⟨_, rfl⟩
                rw [hgx] at hC ⊢
                have k0 := (hC 0 _ rfl).cell
                have k1 := (hC 1 _ rfl).cell
                have k2 := (hC 2 _ rfl).cell
                have k4 := oW0.cell T2 id
                have hne : gx ≠ w.heap.size + 1 + 1 + 1 := by omega
                clear hC T1 T2 T3 T4 T5
                have KEEP := fun W (o : Only (· = w.heap.size + 1 + 1 + 1) W0 W) => Lib.hid (show W.cell? ⟨gx, 0, none⟩ = some (.int .u8 2) ∧ W.cell? ⟨gx, 1, none⟩ = some (.int .i64 a1) ∧ W.cell? ⟨gx, 2, none⟩ = some (.int .i64 b1) ∧ W.cell? ⟨w.heap.size + 1 + 1, 2, none⟩ = some (.func (.func 99) #[] #[]) from ⟨o.cell k0 hne, o.cell k1 hne, o.cell k2 hne, o.cell k4 (by omega)⟩)
                go_still_tail 19, (by kernel_rfl)
                change wpList _ _ _ _ _ W0.drew
                go_wp2_with (first | (go_at_call 99; refine (HM _ (oW0.trans (by repeat' (first | (with_reducible exact Only.refl _ _) | (with_reducible assumption) | (refine Only.of_none ?_; with_reducible assumption) | (with_reducible refine Only.drewN ?_ _) | (with_reducible refine Only.drew ?_) | (with_reducible refine Only.alloc ?_ _) | (with_reducible refine Only.setCell ?_ ?_ _) | (with_reducible refine Only.then0 ?_ (by with_reducible assumption)) | (with_reducible refine Only.thenN ?_ (by with_reducible assumption) ?_) | (with_reducible refine Only.trans ?_ (by with_reducible assumption)) | (refine .inl ?_; first | rfl | (simp; done) | (simp [Ar.blk]; done)) | (refine .inr ?_; first | omega | (simp; done) | (simp; omega) | exact Only.size (by with_reducible assumption) | (refine Nat.le_trans (Only.size (by with_reducible assumption)) ?_; simp; done)))))).out.mono ?_; intro e w6 h6; obtain ⟨rfl, hu6, o6⟩ := h6.some; have d0 := hu6.c0.cell; have d1 := hu6.c1.cell; have d2 := hu6.c2.cell; have d3 := hu6.c3.cell; have d4 := hu6.c4.cell; have d5 := hu6.c5.cell; have z6 := cell_lt d0; clear h6) | (go_at_call 45; refine (HK _).out.mono ?_; rintro e w7 ⟨rfl, o7⟩))
                all_goals
                  go_wp2_with fail
                  go_roundw
                  case rel => exact ⟨j + 1, by omega, by go_num, by rw [HE.out]; rfl, by rw [HE.out]; exact HR.out.step ((Only.of_none oW0).trans (Only.then0 (Only.trans (Only.of_none (by repeat' (first | (with_reducible exact Only.refl _ _) | (with_reducible assumption) | (refine Only.of_none ?_; with_reducible assumption) | (with_reducible refine Only.drewN ?_ _) | (with_reducible refine Only.drew ?_) | (with_reducible refine Only.alloc ?_ _) | (with_reducible refine Only.setCell ?_ ?_ _) | (with_reducible refine Only.then0 ?_ (by with_reducible assumption)) | (with_reducible refine Only.thenN ?_ (by with_reducible assumption) ?_) | (with_reducible refine Only.trans ?_ (by with_reducible assumption)) | (refine .inl ?_; first | rfl | (simp; done) | (simp [Ar.blk]; done)) | (refine .inr ?_; first | omega | (simp; done) | (simp; omega) | exact Only.size (by with_reducible assumption) | (refine Nat.le_trans (Only.size (by with_reducible assumption)) ?_; simp; done))))) o6) (by repeat' (first | (with_reducible exact Only.refl _ _) | (with_reducible assumption) | (refine Only.of_none ?_; with_reducible assumption) | (with_reducible refine Only.drewN ?_ _) | (with_reducible refine Only.drew ?_) | (with_reducible refine Only.alloc ?_ _) | (with_reducible refine Only.setCell ?_ ?_ _) | (with_reducible refine Only.then0 ?_ (by with_reducible assumption)) | (with_reducible refine Only.thenN ?_ (by with_reducible assumption) ?_) | (with_reducible refine Only.trans ?_ (by with_reducible assumption)) | (refine .inl ?_; first | rfl | (simp; done) | (simp [Ar.blk]; done)) | (refine .inr ?_; first | omega | (simp; done) | (simp; omega) | exact Only.size (by with_reducible assumption) | (refine Nat.le_trans (Only.size (by with_reducible assumption)) ?_; simp; done)))))) (fun t h => by cases h; exact hu6.only (S := fun _ => False) (by repeat' (first | (with_reducible exact Only.refl _ _) | (with_reducible assumption) | (refine Only.of_none ?_; with_reducible assumption) | (with_reducible refine Only.drewN ?_ _) | (with_reducible refine Only.drew ?_) | (with_reducible refine Only.alloc ?_ _) | (with_reducible refine Only.setCell ?_ ?_ _) | (with_reducible refine Only.then0 ?_ (by with_reducible assumption)) | (with_reducible refine Only.thenN ?_ (by with_reducible assumption) ?_) | (with_reducible refine Only.trans ?_ (by with_reducible assumption)) | (refine .inl ?_; first | rfl | (simp; done) | (simp [Ar.blk]; done)) | (refine .inr ?_; first | omega | (simp; done) | (simp; omega) | exact Only.size (by with_reducible assumption) | (refine Nat.le_trans (Only.size (by with_reducible assumption)) ?_; simp; done)))) id)⟩
                  case measure => simp [intOf]; omega
            · have HE := Lib.hid (show foldP s (xs.take (j + 1)) = none from by rw [etk, foldP_snoc, ht]; simp only [Option.bind_some, Sn.step, hraw, if_neg hu])
              have HK := fun W => Lib.hid (check_sn u W)
              rw [if_neg hu] at HK
              clear hraw ht hu
              as_aux_lemma =>
                go_upto_region 7 with fail
                have hC : ∀ q v, (#[.int .u8 2, .int .i64 a1, .int .i64 b1] : Array Value)[q]? = some v → Cell (wr.alloc (.cells #[.int .u8 2, .int .i64 a1, .int .i64 b1] 158)) wr.heap.size q v := fun q v hv => Cell.new hv
                have oW0 := (Only.refl (fun _ => False) wr).alloc (.cells #[.int .u8 2, .int .i64 a1, .int .i64 b1] 158)
                obtain ⟨W0, hW0⟩ : ∃ W0, wr.alloc (.cells #[.int .u8 2, .int .i64 a1, .int .i64 b1] 158) = W0 := ⟨_, rfl⟩
                rw [hW0] at hC oW0 ⊢
                clear hW0
                obtain ⟨gx, hgx⟩ : ∃ gx, wr.heap.size = gx := ⟨_, rfl⟩
                rw [hgx] at hC ⊢
                have k0 := (hC 0 _ rfl).cell
                have k1 := (hC 1 _ rfl).cell
                have k2 := (hC 2 _ rfl).cell
                have k4 := oW0.cell T2 id
                have hne : gx ≠ w.heap.size + 1 + 1 + 1 := by omega
                clear hC T1 T2 T3 T4 T5
                have KEEP := fun W (o : Only (· = w.heap.size + 1 + 1 + 1) W0 W) => Lib.hid (show W.cell? ⟨gx, 0, none⟩ = some (.int .u8 2) ∧ W.cell? ⟨gx, 1, none⟩ = some (.int .i64 a1) ∧ W.cell? ⟨gx, 2, none⟩ = some (.int .i64 b1) ∧ W.cell? ⟨w.heap.size + 1 + 1, 2, none⟩ = some (.func (.func 99) #[] #[]) from ⟨o.cell k0 hne, o.cell k1 hne, o.cell k2 hne, o.cell k4 (by omega)⟩)
                go_still_tail 19, (by kernel_rfl)
                change wpList _ _ _ _ _ W0.drew
                go_wp2_with (first | (go_at_call 99; refine (HM _ (oW0.trans (by repeat' (first | (with_reducible exact Only.refl _ _) | (with_reducible assumption) | (refine Only.of_none ?_; with_reducible assumption) | (with_reducible refine Only.drewN ?_ _) | (with_reducible refine Only.drew ?_) | (with_reducible refine Only.alloc ?_ _) | (with_reducible refine Only.setCell ?_ ?_ _) | (with_reducible refine Only.then0 ?_ (by with_reducible assumption)) | (with_reducible refine Only.thenN ?_ (by with_reducible assumption) ?_) | (with_reducible refine Only.trans ?_ (by with_reducible assumption)) | (refine .inl ?_; first | rfl | (simp; done) | (simp [Ar.blk]; done)) | (refine .inr ?_; first | omega | (simp; done) | (simp; omega) | exact Only.size (by with_reducible assumption) | (refine Nat.le_trans (Only.size (by with_reducible assumption)) ?_; simp; done)))))).out.mono ?_; intro e w6 h6; obtain ⟨rfl, hu6, o6⟩ := h6.some; have d0 := hu6.c0.cell; have d1 := hu6.c1.cell; have d2 := hu6.c2.cell; have d3 := hu6.c3.cell; have d4 := hu6.c4.cell; have d5 := hu6.c5.cell; have z6 := cell_lt d0; clear h6) | (go_at_call 45; refine (HK _).out.mono ?_; rintro e w7 ⟨rfl, o7⟩))
                all_goals
                  go_wp2_with fail
                  go_roundw
                  case rel => exact ⟨j + 1, by omega, by go_num, by rw [HE.out]; rfl, by rw [HE.out]; exact HR.out.step ((Only.of_none oW0).trans (Only.then0 (Only.trans (Only.of_none (by repeat' (first | (with_reducible exact Only.refl _ _) | (with_reducible assumption) | (refine Only.of_none ?_; with_reducible assumption) | (with_reducible refine Only.drewN ?_ _) | (with_reducible refine Only.drew ?_) | (with_reducible refine Only.alloc ?_ _) | (with_reducible refine Only.setCell ?_ ?_ _) | (with_reducible refine Only.then0 ?_ (by with_reducible assumption)) | (with_reducible refine Only.thenN ?_ (by with_reducible assumption) ?_) | (with_reducible refine Only.trans ?_ (by with_reducible assumption)) | (refine .inl ?_; first | rfl | (simp; done) | (simp [Ar.blk]; done)) | (refine .inr ?_; first | omega | (simp; done) | (simp; omega) | exact Only.size (by with_reducible assumption) | (refine Nat.le_trans (Only.size (by with_reducible assumption)) ?_; simp; done))))) o6) (by repeat' (first | (with_reducible exact Only.refl _ _) | (with_reducible assumption) | (refine Only.of_none ?_; with_reducible assumption) | (with_reducible refine Only.drewN ?_ _) | (with_reducible refine Only.drew ?_) | (with_reducible refine Only.alloc ?_ _) | (with_reducible refine Only.setCell ?_ ?_ _) | (with_reducible refine Only.then0 ?_ (by with_reducible assumption)) | (with_reducible refine Only.thenN ?_ (by with_reducible assumption) ?_) | (with_reducible refine Only.trans ?_ (by with_reducible assumption)) | (refine .inl ?_; first | rfl | (simp; done) | (simp [Ar.blk]; done)) | (refine .inr ?_; first | omega | (simp; done) | (simp; omega) | exact Only.size (by with_reducible assumption) | (refine Nat.le_trans (Only.size (by with_reducible assumption)) ?_; simp; done)))))) (fun t h => by cases h)⟩
                  case measure => simp [intOf]; omega
        by_cases q3 : kd = 3
        · subst q3
          have HM := fun W (hW : Only (fun _ => False) wr W) => Lib.hid (s_trade (w.heap.size + 1 + 1 + 1) t a1 b1 W ((hR.co t ht).only hW id) hk3 hv3)
          cases hraw : t.raw 3 a1 b1 with
          | none =>
            rw [hraw] at HM
            have HE := Lib.hid (show foldP s (xs.take (j + 1)) = none from by rw [etk, foldP_snoc, ht]; simp only [Option.bind_some, Sn.step, hraw]; rfl)
            clear hraw ht
            as_aux_lemma =>
              go_upto_region 7 with fail
              have hC : ∀ q v, (#[.int .u8 3, .int .i64 a1, .int .i64 b1] : Array Value)[q]? = some v → Cell (wr.alloc (.cells #[.int .u8 3, .int .i64 a1, .int .i64 b1] 158)) wr.heap.size q v := fun q v hv => Cell.new hv
              have oW0 := (Only.refl (fun _ => False) wr).alloc (.cells #[.int .u8 3, .int .i64 a1, .int .i64 b1] 158)
              obtain ⟨W0, hW0⟩ : ∃ W0, wr.alloc (.cells #[.int .u8 3, .int .i64 a1, .int .i64 b1] 158) = W0 := ⟨_, rfl⟩
              rw [hW0] at hC oW0 ⊢
              clear hW0
              obtain ⟨gx, hgx⟩ : ∃ gx, wr.heap.size = gx := ⟨_, rfl⟩
              rw [hgx] at hC ⊢
              have k0 := (hC 0 _ rfl).cell
              have k1 := (hC 1 _ rfl).cell
              have k2 := (hC 2 _ rfl).cell
              have k4 := oW0.cell T3 id
              have hne : gx ≠ w.heap.size + 1 + 1 + 1 := by omega
              clear hC T1 T2 T3 T4 T5
              have KEEP := fun W (o : Only (· = w.heap.size + 1 + 1 + 1) W0 W) => Lib.hid (show W.cell? ⟨gx, 0, none⟩ = some (.int .u8 3) ∧ W.cell? ⟨gx, 1, none⟩ = some (.int .i64 a1) ∧ W.cell? ⟨gx, 2, none⟩ = some (.int .i64 b1) ∧ W.cell? ⟨w.heap.size + 1 + 1, 3, none⟩ = some (.func (.func 100) #[] #[]) from ⟨o.cell k0 hne, o.cell k1 hne, o.cell k2 hne, o.cell k4 (by omega)⟩)
              go_still_tail 19, (by kernel_rfl)
              change wpList _ _ _ _ _ W0.drew
              go_wp2_with (first | (go_at_call 100; refine (HM _ (oW0.trans (by repeat' (first | (with_reducible exact Only.refl _ _) | (with_reducible assumption) | (refine Only.of_none ?_; with_reducible assumption) | (with_reducible refine Only.drewN ?_ _) | (with_reducible refine Only.drew ?_) | (with_reducible refine Only.alloc ?_ _) | (with_reducible refine Only.setCell ?_ ?_ _) | (with_reducible refine Only.then0 ?_ (by with_reducible assumption)) | (with_reducible refine Only.thenN ?_ (by with_reducible assumption) ?_) | (with_reducible refine Only.trans ?_ (by with_reducible assumption)) | (refine .inl ?_; first | rfl | (simp; done) | (simp [Ar.blk]; done)) | (refine .inr ?_; first | omega | (simp; done) | (simp; omega) | exact Only.size (by with_reducible assumption) | (refine Nat.le_trans (Only.size (by with_reducible assumption)) ?_; simp; done)))))).out.mono ?_; intro e w6 h6; obtain ⟨rfl, o6⟩ := h6.none; clear h6))
              all_goals
                go_wp2_with fail
                go_roundw
                case rel => exact ⟨j + 1, by omega, by go_num, by rw [HE.out]; rfl, by rw [HE.out]; exact HR.out.step ((Only.of_none oW0).trans (Only.then0 (Only.trans (Only.of_none (by repeat' (first | (with_reducible exact Only.refl _ _) | (with_reducible assumption) | (refine Only.of_none ?_; with_reducible assumption) | (with_reducible refine Only.drewN ?_ _) | (with_reducible refine Only.drew ?_) | (with_reducible refine Only.alloc ?_ _) | (with_reducible refine Only.setCell ?_ ?_ _) | (with_reducible refine Only.then0 ?_ (by with_reducible assumption)) | (with_reducible refine Only.thenN ?_ (by with_reducible assumption) ?_) | (with_reducible refine Only.trans ?_ (by with_reducible assumption)) | (refine .inl ?_; first | rfl | (simp; done) | (simp [Ar.blk]; done)) | (refine .inr ?_; first | omega | (simp; done) | (simp; omega) | exact Only.size (by with_reducible assumption) | (refine Nat.le_trans (Only.size (by with_reducible assumption)) ?_; simp; done))))) o6) (by repeat' (first | (with_reducible exact Only.refl _ _) | (with_reducible assumption) | (refine Only.of_none ?_; with_reducible assumption) | (with_reducible refine Only.drewN ?_ _) | (with_reducible refine Only.drew ?_) | (with_reducible refine Only.alloc ?_ _) | (with_reducible refine Only.setCell ?_ ?_ _) | (with_reducible refine Only.then0 ?_ (by with_reducible assumption)) | (with_reducible refine Only.thenN ?_ (by with_reducible assumption) ?_) | (with_reducible refine Only.trans ?_ (by with_reducible assumption)) | (refine .inl ?_; first | rfl | (simp; done) | (simp [Ar.blk]; done)) | (refine .inr ?_; first | omega | (simp; done) | (simp; omega) | exact Only.size (by with_reducible assumption) | (refine Nat.le_trans (Only.size (by with_reducible assumption)) ?_; simp; done)))))) (fun t h => by cases h)⟩
                case measure => simp [intOf]; omega
          | some u =>
            rw [hraw] at HM
            by_cases hu : u.ok = true
            · have HE := Lib.hid (show foldP s (xs.take (j + 1)) = some u from by rw [etk, foldP_snoc, ht]; simp only [Option.bind_some, Sn.step, hraw, if_pos hu])
              have HK := fun W => Lib.hid (check_sn u W)
              rw [if_pos hu] at HK
              clear hraw ht hu
              as_aux_lemma =>
                go_upto_region 7 with fail
                have hC : ∀ q v, (#[.int .u8 3, .int .i64 a1, .int .i64 b1] : Array Value)[q]? = some v → Cell (wr.alloc (.cells #[.int .u8 3, .int .i64 a1, .int .i64 b1] 158)) wr.heap.size q v := fun q v hv => Cell.new hv
                have oW0 := (Only.refl (fun _ => False) wr).alloc (.cells #[.int .u8 3, .int .i64 a1, .int .i64 b1] 158)
                obtain ⟨W0, hW0⟩ : ∃ W0, wr.alloc (.cells #[.int .u8 3, .int .i64 a1, .int .i64 b1] 158) = W0 := ⟨_, rfl⟩
                rw [hW0] at hC oW0 ⊢
                clear hW0
                obtain ⟨gx, hgx⟩ : ∃ gx, wr.heap.size = gx := ⟨_, rfl⟩
                rw [hgx] at hC ⊢
                have k0 := (hC 0 _ rfl).cell
                have k1 := (hC 1 _ rfl).cell
                have k2 := (hC 2 _ rfl).cell
                have k4 := oW0.cell T3 id
                have hne : gx ≠ w.heap.size + 1 + 1 + 1 := by omega
                clear hC T1 T2 T3 T4 T5
                have KEEP := fun W (o : Only (· = w.heap.size + 1 + 1 + 1) W0 W) => Lib.hid (show W.cell? ⟨gx, 0, none⟩ = some (.int .u8 3) ∧ W.cell? ⟨gx, 1, none⟩ = some (.int .i64 a1) ∧ W.cell? ⟨gx, 2, none⟩ = some (.int .i64 b1) ∧ W.cell? ⟨w.heap.size + 1 + 1, 3, none⟩ = some (.func (.func 100) #[] #[]) from ⟨o.cell k0 hne, o.cell k1 hne, o.cell k2 hne, o.cell k4 (by omega)⟩)
                go_still_tail 19, (by kernel_rfl)
                change wpList _ _ _ _ _ W0.drew
                go_wp2_with (first | (go_at_call 100; refine (HM _ (oW0.trans (by repeat' (first | (with_reducible exact Only.refl _ _) | (with_reducible assumption) | (refine Only.of_none ?_; with_reducible assumption) | (with_reducible refine Only.drewN ?_ _) | (with_reducible refine Only.drew ?_) | (with_reducible refine Only.alloc ?_ _) | (with_reducible refine Only.setCell ?_ ?_ _) | (with_reducible refine Only.then0 ?_ (by with_reducible assumption)) | (with_reducible refine Only.thenN ?_ (by with_reducible assumption) ?_) | (with_reducible refine Only.trans ?_ (by with_reducible assumption)) | (refine .inl ?_; first | rfl | (simp; done) | (simp [Ar.blk]; done)) | (refine .inr ?_; first | omega | (simp; done) | (simp; omega) | exact Only.size (by with_reducible assumption) | (refine Nat.le_trans (Only.size (by with_reducible assumption)) ?_; simp; done)))))).out.mono ?_; intro e w6 h6; obtain ⟨rfl, hu6, o6⟩ := h6.some; have d0 := hu6.c0.cell; have d1 := hu6.c1.cell; have d2 := hu6.c2.cell; have d3 := hu6.c3.cell; have d4 := hu6.c4.cell; have d5 := hu6.c5.cell; have z6 := cell_lt d0; clear h6) | (go_at_call 45; refine (HK _).out.mono ?_; rintro e w7 ⟨rfl, o7⟩))
                all_goals
                  go_wp2_with fail
                  go_roundw
                  case rel => exact ⟨j + 1, by omega, by go_num, by rw [HE.out]; rfl, by rw [HE.out]; exact HR.out.step ((Only.of_none oW0).trans (Only.then0 (Only.trans (Only.of_none (by repeat' (first | (with_reducible exact Only.refl _ _) | (with_reducible assumption) | (refine Only.of_none ?_; with_reducible assumption) | (with_reducible refine Only.drewN ?_ _) | (with_reducible refine Only.drew ?_) | (with_reducible refine Only.alloc ?_ _) | (with_reducible refine Only.setCell ?_ ?_ _) | (with_reducible refine Only.then0 ?_ (by with_reducible assumption)) | (with_reducible refine Only.thenN ?_ (by with_reducible assumption) ?_) | (with_reducible refine Only.trans ?_ (by with_reducible assumption)) | (refine .inl ?_; first | rfl | (simp; done) | (simp [Ar.blk]; done)) | (refine .inr ?_; first | omega | (simp; done) | (simp; omega) | exact Only.size (by with_reducible assumption) | (refine Nat.le_trans (Only.size (by with_reducible assumption)) ?_; simp; done))))) o6) (by repeat' (first | (with_reducible exact Only.refl _ _) | (with_reducible assumption) | (refine Only.of_none ?_; with_reducible assumption) | (with_reducible refine Only.drewN ?_ _) | (with_reducible refine Only.drew ?_) | (with_reducible refine Only.alloc ?_ _) | (with_reducible refine Only.setCell ?_ ?_ _) | (with_reducible refine Only.then0 ?_ (by with_reducible assumption)) | (with_reducible refine Only.thenN ?_ (by with_reducible assumption) ?_) | (with_reducible refine Only.trans ?_ (by with_reducible assumption)) | (refine .inl ?_; first | rfl | (simp; done) | (simp [Ar.blk]; done)) | (refine .inr ?_; first | omega | (simp; done) | (simp; omega) | exact Only.size (by with_reducible assumption) | (refine Nat.le_trans (Only.size (by with_reducible assumption)) ?_; simp; done)))))) (fun t h => by cases h; exact hu6.only (S := fun _ => False) (by repeat' (first | (with_reducible exact Only.refl _ _) | (with_reducible assumption) | (refine Only.of_none ?_; with_reducible assumption) | (with_reducible refine Only.drewN ?_ _) | (with_reducible refine Only.drew ?_) | (with_reducible refine Only.alloc ?_ _) | (with_reducible refine Only.setCell ?_ ?_ _) | (with_reducible refine Only.then0 ?_ (by with_reducible assumption)) | (with_reducible refine Only.thenN ?_ (by with_reducible assumption) ?_) | (with_reducible refine Only.trans ?_ (by with_reducible assumption)) | (refine .inl ?_; first | rfl | (simp; done) | (simp [Ar.blk]; done)) | (refine .inr ?_; first | omega | (simp; done) | (simp; omega) | exact Only.size (by with_reducible assumption) | (refine Nat.le_trans (Only.size (by with_reducible assumption)) ?_; simp; done)))) id)⟩
                  case measure => simp [intOf]; omega
            · have HE := Lib.hid (show foldP s (xs.take (j + 1)) = none from by rw [etk, foldP_snoc, ht]; simp only [Option.bind_some, Sn.step, hraw, if_neg hu])
              have HK := fun W => Lib.hid (check_sn u W)
              rw [if_neg hu] at HK
              clear hraw ht hu
              as_aux_lemma =>
                go_upto_region 7 with fail
                have hC : ∀ q v, (#[.int .u8 3, .int .i64 a1, .int .i64 b1] : Array Value)[q]? = some v → Cell (wr.alloc (.cells #[.int .u8 3, .int .i64 a1, .int .i64 b1] 158)) wr.heap.size q v := fun q v hv => Cell.new hv
                have oW0 := (Only.refl (fun _ => False) wr).alloc (.cells #[.int .u8 3, .int .i64 a1, .int .i64 b1] 158)
                obtain ⟨W0, hW0⟩ : ∃ W0, wr.alloc (.cells #[.int .u8 3, .int .i64 a1, .int .i64 b1] 158) = W0 := ⟨_, rfl⟩
                rw [hW0] at hC oW0 ⊢
                clear hW0
                obtain ⟨gx, hgx⟩ : ∃ gx, wr.heap.size = gx := ⟨_, rfl⟩
                rw [hgx] at hC ⊢
                have k0 := (hC 0 _ rfl).cell
                have k1 := (hC 1 _ rfl).cell
                have k2 := (hC 2 _ rfl).cell
                have k4 := oW0.cell T3 id
                have hne : gx ≠ w.heap.size + 1 + 1 + 1 := by omega
                clear hC T1 T2 T3 T4 T5
                have KEEP := fun W (o : Only (· = w.heap.size + 1 + 1 + 1) W0 W) => Lib.hid (show W.cell? ⟨gx, 0, none⟩ = some (.int .u8 3) ∧ W.cell? ⟨gx, 1, none⟩ = some (.int .i64 a1) ∧ W.cell? ⟨gx, 2, none⟩ = some (.int .i64 b1) ∧ W.cell? ⟨w.heap.size + 1 + 1, 3, none⟩ = some (.func (.func 100) #[] #[]) from ⟨o.cell k0 hne, o.cell k1 hne, o.cell k2 hne, o.cell k4 (by omega)⟩)
                go_still_tail 19, (by kernel_rfl)
                change wpList _ _ _ _ _ W0.drew
                go_wp2_with (first | (go_at_call 100; refine (HM _ (oW0.trans (by repeat' (first | (with_reducible exact Only.refl _ _) | (with_reducible assumption) | (refine Only.of_none ?_; with_reducible assumption) | (with_reducible refine Only.drewN ?_ _) | (with_reducible refine Only.drew ?_) | (with_reducible refine Only.alloc ?_ _) | (with_reducible refine Only.setCell ?_ ?_ _) | (with_reducible refine Only.then0 ?_ (by with_reducible assumption)) | (with_reducible refine Only.thenN ?_ (by with_reducible assumption) ?_) | (with_reducible refine Only.trans ?_ (by with_reducible assumption)) | (refine .inl ?_; first | rfl | (simp; done) | (simp [Ar.blk]; done)) | (refine .inr ?_; first | omega | (simp; done) | (simp; omega) | exact Only.size (by with_reducible assumption) | (refine Nat.le_trans (Only.size (by with_reducible assumption)) ?_; simp; done)))))).out.mono ?_; intro e w6 h6; obtain ⟨rfl, hu6, o6⟩ := h6.some; have d0 := hu6.c0.cell; have d1 := hu6.c1.cell; have d2 := hu6.c2.cell; have d3 := hu6.c3.cell; have d4 := hu6.c4.cell; have d5 := hu6.c5.cell; have z6 := cell_lt d0; clear h6) | (go_at_call 45; refine (HK _).out.mono ?_; rintro e w7 ⟨rfl, o7⟩))
                all_goals
                  go_wp2_with fail
                  go_roundw
                  case rel => exact ⟨j + 1, by omega, by go_num, by rw [HE.out]; rfl, by rw [HE.out]; exact HR.out.step ((Only.of_none oW0).trans (Only.then0 (Only.trans (Only.of_none (by repeat' (first | (with_reducible exact Only.refl _ _) | (with_reducible assumption) | (refine Only.of_none ?_; with_reducible assumption) | (with_reducible refine Only.drewN ?_ _) | (with_reducible refine Only.drew ?_) | (with_reducible refine Only.alloc ?_ _) | (with_reducible refine Only.setCell ?_ ?_ _) | (with_reducible refine Only.then0 ?_ (by with_reducible assumption)) | (with_reducible refine Only.thenN ?_ (by with_reducible assumption) ?_) | (with_reducible refine Only.trans ?_ (by with_reducible assumption)) | (refine .inl ?_; first | rfl | (simp; done) | (simp [Ar.blk]; done)) | (refine .inr ?_; first | omega | (simp; done) | (simp; omega) | exact Only.size (by with_reducible assumption) | (refine Nat.le_trans (Only.size (by with_reducible assumption)) ?_; simp; done))))) o6) (by repeat' (first | (with_reducible exact Only.refl _ _) | (with_reducible assumption) | (refine Only.of_none ?_; with_reducible assumption) | (with_reducible refine Only.drewN ?_ _) | (with_reducible refine Only.drew ?_) | (with_reducible refine Only.alloc ?_ _) | (with_reducible refine Only.setCell ?_ ?_ _) | (with_reducible refine Only.then0 ?_ (by with_reducible assumption)) | (with_reducible refine Only.thenN ?_ (by with_reducible assumption) ?_) | (with_reducible refine Only.trans ?_ (by with_reducible assumption)) | (refine .inl ?_; first | rfl | (simp; done) | (simp [Ar.blk]; done)) | (refine .inr ?_; first | omega | (simp; done) | (simp; omega) | exact Only.size (by with_reducible assumption) | (refine Nat.le_trans (Only.size (by with_reducible assumption)) ?_; simp; done)))))) (fun t h => by cases h)⟩
                  case measure => simp [intOf]; omega
        by_cases q4 : kd = 4
        · subst q4
          have HM := fun W (hW : Only (fun _ => False) wr W) => Lib.hid (s_time (w.heap.size + 1 + 1 + 1) t a1 b1 W ((hR.co t ht).only hW id))
          cases hraw : t.raw 4 a1 b1 with
          | none =>
            rw [hraw] at HM
            have HE := Lib.hid (show foldP s (xs.take (j + 1)) = none from by rw [etk, foldP_snoc, ht]; simp only [Option.bind_some, Sn.step, hraw]; rfl)
            clear hraw ht
            as_aux_lemma =>
              go_upto_region 7 with fail
              have hC : ∀ q v, (#[.int .u8 4, .int .i64 a1, .int .i64 b1] : Array Value)[q]? = some v → Cell (wr.alloc (.cells #[.int .u8 4, .int .i64 a1, .int .i64 b1] 158)) wr.heap.size q v := fun q v hv => Cell.new hv
              have oW0 := (Only.refl (fun _ => False) wr).alloc (.cells #[.int .u8 4, .int .i64 a1, .int .i64 b1] 158)
              obtain ⟨W0, hW0⟩ : ∃ W0, wr.alloc (.cells #[.int .u8 4, .int .i64 a1, .int .i64 b1] 158) = W0 := ⟨_, rfl⟩
              rw [hW0] at hC oW0 ⊢
              clear hW0
              obtain ⟨gx, hgx⟩ : ∃ gx, wr.heap.size = gx := ⟨_, rfl⟩
              rw [hgx] at hC ⊢
              have k0 := (hC 0 _ rfl).cell
              have k1 := (hC 1 _ rfl).cell
              have k2 := (hC 2 _ rfl).cell
              have k4 := oW0.cell T4 id
              have hne : gx ≠ w.heap.size + 1 + 1 + 1 := by omega
              clear hC T1 T2 T3 T4 T5
              have KEEP := fun W (o : Only (· = w.heap.size + 1 + 1 + 1) W0 W) => Lib.hid (show W.cell? ⟨gx, 0, none⟩ = some (.int .u8 4) ∧ W.cell? ⟨gx, 1, none⟩ = some (.int .i64 a1) ∧ W.cell? ⟨gx, 2, none⟩ = some (.int .i64 b1) ∧ W.cell? ⟨w.heap.size + 1 + 1, 4, none⟩ = some (.func (.func 101) #[] #[]) from ⟨o.cell k0 hne, o.cell k1 hne, o.cell k2 hne, o.cell k4 (by omega)⟩)
              go_still_tail 19, (by kernel_rfl)
              change wpList _ _ _ _ _ W0.drew
              go_wp2_with (first | (go_at_call 101; refine (HM _ (oW0.trans (by repeat' (first | (with_reducible exact Only.refl _ _) | (with_reducible assumption) | (refine Only.of_none ?_; with_reducible assumption) | (with_reducible refine Only.drewN ?_ _) | (with_reducible refine Only.drew ?_) | (with_reducible refine Only.alloc ?_ _) | (with_reducible refine Only.setCell ?_ ?_ _) | (with_reducible refine Only.then0 ?_ (by with_reducible assumption)) | (with_reducible refine Only.thenN ?_ (by with_reducible assumption) ?_) | (with_reducible refine Only.trans ?_ (by with_reducible assumption)) | (refine .inl ?_; first | rfl | (simp; done) | (simp [Ar.blk]; done)) | (refine .inr ?_; first | omega | (simp; done) | (simp; omega) | exact Only.size (by with_reducible assumption) | (refine Nat.le_trans (Only.size (by with_reducible assumption)) ?_; simp; done)))))).out.mono ?_; intro e w6 h6; obtain ⟨rfl, o6⟩ := h6.none; clear h6))
              all_goals
                go_wp2_with fail
                go_roundw
                case rel => exact ⟨j + 1, by omega, by go_num, by rw [HE.out]; rfl, by rw [HE.out]; exact HR.out.step ((Only.of_none oW0).trans (Only.then0 (Only.trans (Only.of_none (by repeat' (first | (with_reducible exact Only.refl _ _) | (with_reducible assumption) | (refine Only.of_none ?_; with_reducible assumption) | (with_reducible refine Only.drewN ?_ _) | (with_reducible refine Only.drew ?_) | (with_reducible refine Only.alloc ?_ _) | (with_reducible refine Only.setCell ?_ ?_ _) | (with_reducible refine Only.then0 ?_ (by with_reducible assumption)) | (with_reducible refine Only.thenN ?_ (by with_reducible assumption) ?_) | (with_reducible refine Only.trans ?_ (by with_reducible assumption)) | (refine .inl ?_; first | rfl | (simp; done) | (simp [Ar.blk]; done)) | (refine .inr ?_; first | omega | (simp; done) | (simp; omega) | exact Only.size (by with_reducible assumption) | (refine Nat.le_trans (Only.size (by with_reducible assumption)) ?_; simp; done))))) o6) (by repeat' (first | (with_reducible exact Only.refl _ _) | (with_reducible assumption) | (refine Only.of_none ?_; with_reducible assumption) | (with_reducible refine Only.drewN ?_ _) | (with_reducible refine Only.drew ?_) | (with_reducible refine Only.alloc ?_ _) | (with_reducible refine Only.setCell ?_ ?_ _) | (with_reducible refine Only.then0 ?_ (by with_reducible assumption)) | (with_reducible refine Only.thenN ?_ (by with_reducible assumption) ?_) | (with_reducible refine Only.trans ?_ (by with_reducible assumption)) | (refine .inl ?_; first | rfl | (simp; done) | (simp [Ar.blk]; done)) | (refine .inr ?_; first | omega | (simp; done) | (simp; omega) | exact Only.size (by with_reducible assumption) | (refine Nat.le_trans (Only.size (by with_reducible assumption)) ?_; simp; done)))))) (fun t h => by cases h)⟩
                case measure => simp [intOf]; omega
          | some u =>
            rw [hraw] at HM
            by_cases hu : u.ok = true
            · have HE := Lib.hid (show foldP s (xs.take (j + 1)) = some u from by rw [etk, foldP_snoc, ht]; simp only [Option.bind_some, Sn.step, hraw, if_pos hu])
              have HK := fun W => Lib.hid (check_sn u W)
              rw [if_pos hu] at HK
              clear hraw ht hu
              as_aux_lemma =>
                go_upto_region 7 with fail
                have hC : ∀ q v, (#[.int .u8 4, .int .i64 a1, .int .i64 b1] : Array Value)[q]? = some v → Cell (wr.alloc (.cells #[.int .u8 4, .int .i64 a1, .int .i64 b1] 158)) wr.heap.size q v := fun q v hv => Cell.new hv
                have oW0 := (Only.refl (fun _ => False) wr).alloc (.cells #[.int .u8 4, .int .i64 a1, .int .i64 b1] 158)
                obtain ⟨W0, hW0⟩ : ∃ W0, wr.alloc (.cells #[.int .u8 4, .int .i64 a1, .int .i64 b1] 158) = W0 := ⟨_, rfl⟩
                rw [hW0] at hC oW0 ⊢
                clear hW0
                obtain ⟨gx, hgx⟩ : ∃ gx, wr.heap.size = gx := ⟨_, rfl⟩
                rw [hgx] at hC ⊢
                have k0 := (hC 0 _ rfl).cell
                have k1 := (hC 1 _ rfl).cell
                have k2 := (hC 2 _ rfl).cell
                have k4 := oW0.cell T4 id
                have hne : gx ≠ w.heap.size + 1 + 1 + 1 := by omega
                clear hC T1 T2 T3 T4 T5
                have KEEP := fun W (o : Only (· = w.heap.size + 1 + 1 + 1) W0 W) => Lib.hid (show W.cell? ⟨gx, 0, none⟩ = some (.int .u8 4) ∧ W.cell? ⟨gx, 1, none⟩ = some (.int .i64 a1) ∧ W.cell? ⟨gx, 2, none⟩ = some (.int .i64 b1) ∧ W.cell? ⟨w.heap.size + 1 + 1, 4, none⟩ = some (.func (.func 101) #[] #[]) from ⟨o.cell k0 hne, o.cell k1 hne, o.cell k2 hne, o.cell k4 (by omega)⟩)
                go_still_tail 19, (by kernel_rfl)
                change wpList _ _ _ _ _ W0.drew
                go_wp2_with (first | (go_at_call 101; refine (HM _ (oW0.trans (by repeat' (first | (with_reducible exact Only.refl _ _) | (with_reducible assumption) | (refine Only.of_none ?_; with_reducible assumption) | (with_reducible refine Only.drewN ?_ _) | (with_reducible refine Only.drew ?_) | (with_reducible refine Only.alloc ?_ _) | (with_reducible refine Only.setCell ?_ ?_ _) | (with_reducible refine Only.then0 ?_ (by with_reducible assumption)) | (with_reducible refine Only.thenN ?_ (by with_reducible assumption) ?_) | (with_reducible refine Only.trans ?_ (by with_reducible assumption)) | (refine .inl ?_; first | rfl | (simp; done) | (simp [Ar.blk]; done)) | (refine .inr ?_; first | omega | (simp; done) | (simp; omega) | exact Only.size (by with_reducible assumption) | (refine Nat.le_trans (Only.size (by with_reducible assumption)) ?_; simp; done)))))).out.mono ?_; intro e w6 h6; obtain ⟨rfl, hu6, o6⟩ := h6.some; have d0 := hu6.c0.cell; have d1 := hu6.c1.cell; have d2 := hu6.c2.cell; have d3 := hu6.c3.cell; have d4 := hu6.c4.cell; have d5 := hu6.c5.cell; have z6 := cell_lt d0; clear h6) | (go_at_call 45; refine (HK _).out.mono ?_; rintro e w7 ⟨rfl, o7⟩))
                all_goals
                  go_wp2_with fail
                  go_roundw
                  case rel => exact ⟨j + 1, by omega, by go_num, by rw [HE.out]; rfl, by rw [HE.out]; exact HR.out.step ((Only.of_none oW0).trans (Only.then0 (Only.trans (Only.of_none (by repeat' (first | (with_reducible exact Only.refl _ _) | (with_reducible assumption) | (refine Only.of_none ?_; with_reducible assumption) | (with_reducible refine Only.drewN ?_ _) | (with_reducible refine Only.drew ?_) | (with_reducible refine Only.alloc ?_ _) | (with_reducible refine Only.setCell ?_ ?_ _) | (with_reducible refine Only.then0 ?_ (by with_reducible assumption)) | (with_reducible refine Only.thenN ?_ (by with_reducible assumption) ?_) | (with_reducible refine Only.trans ?_ (by with_reducible assumption)) | (refine .inl ?_; first | rfl | (simp; done) | (simp [Ar.blk]; done)) | (refine .inr ?_; first | omega | (simp; done) | (simp; omega) | exact Only.size (by with_reducible assumption) | (refine Nat.le_trans (Only.size (by with_reducible assumption)) ?_; simp; done))))) o6) (by repeat' (first | (with_reducible exact Only.refl _ _) | (with_reducible assumption) | (refine Only.of_none ?_; with_reducible assumption) | (with_reducible refine Only.drewN ?_ _) | (with_reducible refine Only.drew ?_) | (with_reducible refine Only.alloc ?_ _) | (with_reducible refine Only.setCell ?_ ?_ _) | (with_reducible refine Only.then0 ?_ (by with_reducible assumption)) | (with_reducible refine Only.thenN ?_ (by with_reducible assumption) ?_) | (with_reducible refine Only.trans ?_ (by with_reducible assumption)) | (refine .inl ?_; first | rfl | (simp; done) | (simp [Ar.blk]; done)) | (refine .inr ?_; first | omega | (simp; done) | (simp; omega) | exact Only.size (by with_reducible assumption) | (refine Nat.le_trans (Only.size (by with_reducible assumption)) ?_; simp; done)))))) (fun t h => by cases h; exact hu6.only (S := fun _ => False) (by repeat' (first | (with_reducible exact Only.refl _ _) | (with_reducible assumption) | (refine Only.of_none ?_; with_reducible assumption) | (with_reducible refine Only.drewN ?_ _) | (with_reducible refine Only.drew ?_) | (with_reducible refine Only.alloc ?_ _) | (with_reducible refine Only.setCell ?_ ?_ _) | (with_reducible refine Only.then0 ?_ (by with_reducible assumption)) | (with_reducible refine Only.thenN ?_ (by with_reducible assumption) ?_) | (with_reducible refine Only.trans ?_ (by with_reducible assumption)) | (refine .inl ?_; first | rfl | (simp; done) | (simp [Ar.blk]; done)) | (refine .inr ?_; first | omega | (simp; done) | (simp; omega) | exact Only.size (by with_reducible assumption) | (refine Nat.le_trans (Only.size (by with_reducible assumption)) ?_; simp; done)))) id)⟩
                  case measure => simp [intOf]; omega
            · have HE := Lib.hid (show foldP s (xs.take (j + 1)) = none from by rw [etk, foldP_snoc, ht]; simp only [Option.bind_some, Sn.step, hraw, if_neg hu])
              have HK := fun W => Lib.hid (check_sn u W)
              rw [if_neg hu] at HK
              clear hraw ht hu
              as_aux_lemma =>
                go_upto_region 7 with fail
                have hC : ∀ q v, (#[.int .u8 4, .int .i64 a1, .int .i64 b1] : Array Value)[q]? = some v → Cell (wr.alloc (.cells #[.int .u8 4, .int .i64 a1, .int .i64 b1] 158)) wr.heap.size q v := fun q v hv => Cell.new hv
                have oW0 := (Only.refl (fun _ => False) wr).alloc (.cells #[.int .u8 4, .int .i64 a1, .int .i64 b1] 158)
                obtain ⟨W0, hW0⟩ : ∃ W0, wr.alloc (.cells #[.int .u8 4, .int .i64 a1, .int .i64 b1] 158) = W0 := ⟨_, rfl⟩
                rw [hW0] at hC oW0 ⊢
                clear hW0
                obtain ⟨gx, hgx⟩ : ∃ gx, wr.heap.size = gx := ⟨_, rfl⟩
                rw [hgx] at hC ⊢
                have k0 := (hC 0 _ rfl).cell
                have k1 := (hC 1 _ rfl).cell
                have k2 := (hC 2 _ rfl).cell
                have k4 := oW0.cell T4 id
                have hne : gx ≠ w.heap.size + 1 + 1 + 1 := by omega
                clear hC T1 T2 T3 T4 T5
                have KEEP := fun W (o : Only (· = w.heap.size + 1 + 1 + 1) W0 W) => Lib.hid (show W.cell? ⟨gx, 0, none⟩ = some (.int .u8 4) ∧ W.cell? ⟨gx, 1, none⟩ = some (.int .i64 a1) ∧ W.cell? ⟨gx, 2, none⟩ = some (.int .i64 b1) ∧ W.cell? ⟨w.heap.size + 1 + 1, 4, none⟩ = some (.func (.func 101) #[] #[]) from ⟨o.cell k0 hne, o.cell k1 hne, o.cell k2 hne, o.cell k4 (by omega)⟩)
                go_still_tail 19, (by kernel_rfl)
                change wpList _ _ _ _ _ W0.drew
                go_wp2_with (first | (go_at_call 101; refine (HM _ (oW0.trans (by repeat' (first | (with_reducible exact Only.refl _ _) | (with_reducible assumption) | (refine Only.of_none ?_; with_reducible assumption) | (with_reducible refine Only.drewN ?_ _) | (with_reducible refine Only.drew ?_) | (with_reducible refine Only.alloc ?_ _) | (with_reducible refine Only.setCell ?_ ?_ _) | (with_reducible refine Only.then0 ?_ (by with_reducible assumption)) | (with_reducible refine Only.thenN ?_ (by with_reducible assumption) ?_) | (with_reducible refine Only.trans ?_ (by with_reducible assumption)) | (refine .inl ?_; first | rfl | (simp; done) | (simp [Ar.blk]; done)) | (refine .inr ?_; first | omega | (simp; done) | (simp; omega) | exact Only.size (by with_reducible assumption) | (refine Nat.le_trans (Only.size (by with_reducible assumption)) ?_; simp; done)))))).out.mono ?_; intro e w6 h6; obtain ⟨rfl, hu6, o6⟩ := h6.some; have d0 := hu6.c0.cell; have d1 := hu6.c1.cell; have d2 := hu6.c2.cell; have d3 := hu6.c3.cell; have d4 := hu6.c4.cell; have d5 := hu6.c5.cell; have z6 := cell_lt d0; clear h6) | (go_at_call 45; refine (HK _).out.mono ?_; rintro e w7 ⟨rfl, o7⟩))
                all_goals
                  go_wp2_with fail
                  go_roundw
                  case rel => exact ⟨j + 1, by omega, by go_num, by rw [HE.out]; rfl, by rw [HE.out]; exact HR.out.step ((Only.of_none oW0).trans (Only.then0 (Only.trans (Only.of_none (by repeat' (first | (with_reducible exact Only.refl _ _) | (with_reducible assumption) | (refine Only.of_none ?_; with_reducible assumption) | (with_reducible refine Only.drewN ?_ _) | (with_reducible refine Only.drew ?_) | (with_reducible refine Only.alloc ?_ _) | (with_reducible refine Only.setCell ?_ ?_ _) | (with_reducible refine Only.then0 ?_ (by with_reducible assumption)) | (with_reducible refine Only.thenN ?_ (by with_reducible assumption) ?_) | (with_reducible refine Only.trans ?_ (by with_reducible assumption)) | (refine .inl ?_; first | rfl | (simp; done) | (simp [Ar.blk]; done)) | (refine .inr ?_; first | omega | (simp; done) | (simp; omega) | exact Only.size (by with_reducible assumption) | (refine Nat.le_trans (Only.size (by with_reducible assumption)) ?_; simp; done))))) o6) (by repeat' (first | (with_reducible exact Only.refl _ _) | (with_reducible assumption) | (refine Only.of_none ?_; with_reducible assumption) | (with_reducible refine Only.drewN ?_ _) | (with_reducible refine Only.drew ?_) | (with_reducible refine Only.alloc ?_ _) | (with_reducible refine Only.setCell ?_ ?_ _) | (with_reducible refine Only.then0 ?_ (by with_reducible assumption)) | (with_reducible refine Only.thenN ?_ (by with_reducible assumption) ?_) | (with_reducible refine Only.trans ?_ (by with_reducible assumption)) | (refine .inl ?_; first | rfl | (simp; done) | (simp [Ar.blk]; done)) | (refine .inr ?_; first | omega | (simp; done) | (simp; omega) | exact Only.size (by with_reducible assumption) | (refine Nat.le_trans (Only.size (by with_reducible assumption)) ?_; simp; done)))))) (fun t h => by cases h)⟩
                  case measure => simp [intOf]; omega
        by_cases q5 : kd = 5
        · subst q5
          have HM := fun W (hW : Only (fun _ => False) wr W) => Lib.hid (s_open (w.heap.size + 1 + 1 + 1) t a1 b1 W ((hR.co t ht).only hW id) hk2 hv5)
          cases hraw : t.raw 5 a1 b1 with
          | none =>
            rw [hraw] at HM
            have HE := Lib.hid (show foldP s (xs.take (j + 1)) = none from by rw [etk, foldP_snoc, ht]; simp only [Option.bind_some, Sn.step, hraw]; rfl)
            clear hraw ht
            as_aux_lemma =>
              go_upto_region 7 with fail
              have hC : ∀ q v, (#[.int .u8 5, .int .i64 a1, .int .i64 b1] : Array Value)[q]? = some v → Cell (wr.alloc (.cells #[.int .u8 5, .int .i64 a1, .int .i64 b1] 158)) wr.heap.size q v := fun q v hv => Cell.new hv
              have oW0 := (Only.refl (fun _ => False) wr).alloc (.cells #[.int .u8 5, .int .i64 a1, .int .i64 b1] 158)
              obtain ⟨W0, hW0⟩ : ∃ W0, wr.alloc (.cells #[.int .u8 5, .int .i64 a1, .int .i64 b1] 158) = W0 := ⟨_, rfl⟩
              rw [hW0] at hC oW0 ⊢
              clear hW0
              obtain ⟨gx, hgx⟩ : ∃ gx, wr.heap.size = gx := ⟨_, rfl⟩
              rw [hgx] at hC ⊢
              have k0 := (hC 0 _ rfl).cell
              have k1 := (hC 1 _ rfl).cell
              have k2 := (hC 2 _ rfl).cell
              have k4 := oW0.cell T5 id
              have hne : gx ≠ w.heap.size + 1 + 1 + 1 := by omega
              clear hC T1 T2 T3 T4 T5
              have KEEP := fun W (o : Only (· = w.heap.size + 1 + 1 + 1) W0 W) => Lib.hid (show W.cell? ⟨gx, 0, none⟩ = some (.int .u8 5) ∧ W.cell? ⟨gx, 1, none⟩ = some (.int .i64 a1) ∧ W.cell? ⟨gx, 2, none⟩ = some (.int .i64 b1) ∧ W.cell? ⟨w.heap.size + 1 + 1, 5, none⟩ = some (.func (.func 102) #[] #[]) from ⟨o.cell k0 hne, o.cell k1 hne, o.cell k2 hne, o.cell k4 (by omega)⟩)
              go_still_tail 19, (by kernel_rfl)
              change wpList _ _ _ _ _ W0.drew
              go_wp2_with (first | (go_at_call 102; refine (HM _ (oW0.trans (by repeat' (first | (with_reducible exact Only.refl _ _) | (with_reducible assumption) | (refine Only.of_none ?_; with_reducible assumption) | (with_reducible refine Only.drewN ?_ _) | (with_reducible refine Only.drew ?_) | (with_reducible refine Only.alloc ?_ _) | (with_reducible refine Only.setCell ?_ ?_ _) | (with_reducible refine Only.then0 ?_ (by with_reducible assumption)) | (with_reducible refine Only.thenN ?_ (by with_reducible assumption) ?_) | (with_reducible refine Only.trans ?_ (by with_reducible assumption)) | (refine .inl ?_; first | rfl | (simp; done) | (simp [Ar.blk]; done)) | (refine .inr ?_; first | omega | (simp; done) | (simp; omega) | exact Only.size (by with_reducible assumption) | (refine Nat.le_trans (Only.size (by with_reducible assumption)) ?_; simp; done)))))).out.mono ?_; intro e w6 h6; obtain ⟨rfl, o6⟩ := h6.none; clear h6))
              all_goals
                go_wp2_with fail
                go_roundw
                case rel => exact ⟨j + 1, by omega, by go_num, by rw [HE.out]; rfl, by rw [HE.out]; exact HR.out.step ((Only.of_none oW0).trans (Only.then0 (Only.trans (Only.of_none (by repeat' (first | (with_reducible exact Only.refl _ _) | (with_reducible assumption) | (refine Only.of_none ?_; with_reducible assumption) | (with_reducible refine Only.drewN ?_ _) | (with_reducible refine Only.drew ?_) | (with_reducible refine Only.alloc ?_ _) | (with_reducible refine Only.setCell ?_ ?_ _) | (with_reducible refine Only.then0 ?_ (by with_reducible assumption)) | (with_reducible refine Only.thenN ?_ (by with_reducible assumption) ?_) | (with_reducible refine Only.trans ?_ (by with_reducible assumption)) | (refine .inl ?_; first | rfl | (simp; done) | (simp [Ar.blk]; done)) | (refine .inr ?_; first | omega | (simp; done) | (simp; omega) | exact Only.size (by with_reducible assumption) | (refine Nat.le_trans (Only.size (by with_reducible assumption)) ?_; simp; done))))) o6) (by repeat' (first | (with_reducible exact Only.refl _ _) | (with_reducible assumption) | (refine Only.of_none ?_; with_reducible assumption) | (with_reducible refine Only.drewN ?_ _) | (with_reducible refine Only.drew ?_) | (with_reducible refine Only.alloc ?_ _) | (with_reducible refine Only.setCell ?_ ?_ _) | (with_reducible refine Only.then0 ?_ (by with_reducible assumption)) | (with_reducible refine Only.thenN ?_ (by with_reducible assumption) ?_) | (with_reducible refine Only.trans ?_ (by with_reducible assumption)) | (refine .inl ?_; first | rfl | (simp; done) | (simp [Ar.blk]; done)) | (refine .inr ?_; first | omega | (simp; done) | (simp; omega) | exact Only.size (by with_reducible assumption) | (refine Nat.le_trans (Only.size (by with_reducible assumption)) ?_; simp; done)))))) (fun t h => by cases h)⟩
                case measure => simp [intOf]; omega
          | some u =>
            rw [hraw] at HM
            by_cases hu : u.ok = true
            · have HE := Lib.hid (show foldP s (xs.take (j + 1)) = some u from by rw [etk, foldP_snoc, ht]; simp only [Option.bind_some, Sn.step, hraw, if_pos hu])
              have HK := fun W => Lib.hid (check_sn u W)
              rw [if_pos hu] at HK
              clear hraw ht hu
              as_aux_lemma =>
                go_upto_region 7 with fail
                have hC : ∀ q v, (#[.int .u8 5, .int .i64 a1, .int .i64 b1] : Array Value)[q]? = some v → Cell (wr.alloc (.cells #[.int .u8 5, .int .i64 a1, .int .i64 b1] 158)) wr.heap.size q v := fun q v hv => Cell.new hv
                have oW0 := (Only.refl (fun _ => False) wr).alloc (.cells #[.int .u8 5, .int .i64 a1, .int .i64 b1] 158)
                obtain ⟨W0, hW0⟩ : ∃ W0, wr.alloc (.cells #[.int .u8 5, .int .i64 a1, .int .i64 b1] 158) = W0 := ⟨_, rfl⟩
                rw [hW0] at hC oW0 ⊢
                clear hW0
                obtain ⟨gx, hgx⟩ : ∃ gx, wr.heap.size = gx := ⟨_, rfl⟩
                rw [hgx] at hC ⊢
                have k0 := (hC 0 _ rfl).cell
                have k1 := (hC 1 _ rfl).cell
                have k2 := (hC 2 _ rfl).cell
                have k4 := oW0.cell T5 id
                have hne : gx ≠ w.heap.size + 1 + 1 + 1 := by omega
                clear hC T1 T2 T3 T4 T5
                have KEEP := fun W (o : Only (· = w.heap.size + 1 + 1 + 1) W0 W) => Lib.hid (show W.cell? ⟨gx, 0, none⟩ = some (.int .u8 5) ∧ W.cell? ⟨gx, 1, none⟩ = some (.int .i64 a1) ∧ W.cell? ⟨gx, 2, none⟩ = some (.int .i64 b1) ∧ W.cell? ⟨w.heap.size + 1 + 1, 5, none⟩ = some (.func (.func 102) #[] #[]) from ⟨o.cell k0 hne, o.cell k1 hne, o.cell k2 hne, o.cell k4 (by omega)⟩)
                go_still_tail 19, (by kernel_rfl)
                change wpList _ _ _ _ _ W0.drew
                go_wp2_with (first | (go_at_call 102; refine (HM _ (oW0.trans (by repeat' (first | (with_reducible exact Only.refl _ _) | (with_reducible assumption) | (refine Only.of_none ?_; with_reducible assumption) | (with_reducible refine Only.drewN ?_ _) | (with_reducible refine Only.drew ?_) | (with_reducible refine Only.alloc ?_ _) | (with_reducible refine Only.setCell ?_ ?_ _) | (with_reducible refine Only.then0 ?_ (by with_reducible assumption)) | (with_reducible refine Only.thenN ?_ (by with_reducible assumption) ?_) | (with_reducible refine Only.trans ?_ (by with_reducible assumption)) | (refine .inl ?_; first | rfl | (simp; done) | (simp [Ar.blk]; done)) | (refine .inr ?_; first | omega | (simp; done) | (simp; omega) | exact Only.size (by with_reducible assumption) | (refine Nat.le_trans (Only.size (by with_reducible assumption)) ?_; simp; done)))))).out.mono ?_; intro e w6 h6; obtain ⟨rfl, hu6, o6⟩ := h6.some; have d0 := hu6.c0.cell; have d1 := hu6.c1.cell; have d2 := hu6.c2.cell; have d3 := hu6.c3.cell; have d4 := hu6.c4.cell; have d5 := hu6.c5.cell; have z6 := cell_lt d0; clear h6) | (go_at_call 45; refine (HK _).out.mono ?_; rintro e w7 ⟨rfl, o7⟩))
                all_goals
                  go_wp2_with fail
                  go_roundw
                  case rel => exact ⟨j + 1, by omega, by go_num, by rw [HE.out]; rfl, by rw [HE.out]; exact HR.out.step ((Only.of_none oW0).trans (Only.then0 (Only.trans (Only.of_none (by repeat' (first | (with_reducible exact Only.refl _ _) | (with_reducible assumption) | (refine Only.of_none ?_; with_reducible assumption) | (with_reducible refine Only.drewN ?_ _) | (with_reducible refine Only.drew ?_) | (with_reducible refine Only.alloc ?_ _) | (with_reducible refine Only.setCell ?_ ?_ _) | (with_reducible refine Only.then0 ?_ (by with_reducible assumption)) | (with_reducible refine Only.thenN ?_ (by with_reducible assumption) ?_) | (with_reducible refine Only.trans ?_ (by with_reducible assumption)) | (refine .inl ?_; first | rfl | (simp; done) | (simp [Ar.blk]; done)) | (refine .inr ?_; first | omega | (simp; done) | (simp; omega) | exact Only.size (by with_reducible assumption) | (refine Nat.le_trans (Only.size (by with_reducible assumption)) ?_; simp; done))))) o6) (by repeat' (first | (with_reducible exact Only.refl _ _) | (with_reducible assumption) | (refine Only.of_none ?_; with_reducible assumption) | (with_reducible refine Only.drewN ?_ _) | (with_reducible refine Only.drew ?_) | (with_reducible refine Only.alloc ?_ _) | (with_reducible refine Only.setCell ?_ ?_ _) | (with_reducible refine Only.then0 ?_ (by with_reducible assumption)) | (with_reducible refine Only.thenN ?_ (by with_reducible assumption) ?_) | (with_reducible refine Only.trans ?_ (by with_reducible assumption)) | (refine .inl ?_; first | rfl | (simp; done) | (simp [Ar.blk]; done)) | (refine .inr ?_; first | omega | (simp; done) | (simp; omega) | exact Only.size (by with_reducible assumption) | (refine Nat.le_trans (Only.size (by with_reducible assumption)) ?_; simp; done)))))) (fun t h => by cases h; exact hu6.only (S := fun _ => False) (by repeat' (first | (with_reducible exact Only.refl _ _) | (with_reducible assumption) | (refine Only.of_none ?_; with_reducible assumption) | (with_reducible refine Only.drewN ?_ _) | (with_reducible refine Only.drew ?_) | (with_reducible refine Only.alloc ?_ _) | (with_reducible refine Only.setCell ?_ ?_ _) | (with_reducible refine Only.then0 ?_ (by with_reducible assumption)) | (with_reducible refine Only.thenN ?_ (by with_reducible assumption) ?_) | (with_reducible refine Only.trans ?_ (by with_reducible assumption)) | (refine .inl ?_; first | rfl | (simp; done) | (simp [Ar.blk]; done)) | (refine .inr ?_; first | omega | (simp; done) | (simp; omega) | exact Only.size (by with_reducible assumption) | (refine Nat.le_trans (Only.size (by with_reducible assumption)) ?_; simp; done)))) id)⟩
                  case measure => simp [intOf]; omega
            · have HE := Lib.hid (show foldP s (xs.take (j + 1)) = none from by rw [etk, foldP_snoc, ht]; simp only [Option.bind_some, Sn.step, hraw, if_neg hu])
              have HK := fun W => Lib.hid (check_sn u W)
              rw [if_neg hu] at HK
              clear hraw ht hu
              as_aux_lemma =>
                go_upto_region 7 with fail
                have hC : ∀ q v, (#[.int .u8 5, .int .i64 a1, .int .i64 b1] : Array Value)[q]? = some v → Cell (wr.alloc (.cells #[.int .u8 5, .int .i64 a1, .int .i64 b1] 158)) wr.heap.size q v := fun q v hv => Cell.new hv
                have oW0 := (Only.refl (fun _ => False) wr).alloc (.cells #[.int .u8 5, .int .i64 a1, .int .i64 b1] 158)
                obtain ⟨W0, hW0⟩ : ∃ W0, wr.alloc (.cells #[.int .u8 5, .int .i64 a1, .int .i64 b1] 158) = W0 := ⟨_, rfl⟩
                rw [hW0] at hC oW0 ⊢
                clear hW0
                obtain ⟨gx, hgx⟩ : ∃ gx, wr.heap.size = gx := ⟨_, rfl⟩
                rw [hgx] at hC ⊢
                have k0 := (hC 0 _ rfl).cell
                have k1 := (hC 1 _ rfl).cell
                have k2 := (hC 2 _ rfl).cell
                have k4 := oW0.cell T5 id
                have hne : gx ≠ w.heap.size + 1 + 1 + 1 := by omega
                clear hC T1 T2 T3 T4 T5
                have KEEP := fun W (o : Only (· = w.heap.size + 1 + 1 + 1) W0 W) => Lib.hid (show W.cell? ⟨gx, 0, none⟩ = some (.int .u8 5) ∧ W.cell? ⟨gx, 1, none⟩ = some (.int .i64 a1) ∧ W.cell? ⟨gx, 2, none⟩ = some (.int .i64 b1) ∧ W.cell? ⟨w.heap.size + 1 + 1, 5, none⟩ = some (.func (.func 102) #[] #[]) from ⟨o.cell k0 hne, o.cell k1 hne, o.cell k2 hne, o.cell k4 (by omega)⟩)
                go_still_tail 19, (by kernel_rfl)
                change wpList _ _ _ _ _ W0.drew
                go_wp2_with (first | (go_at_call 102; refine (HM _ (oW0.trans (by repeat' (first | (with_reducible exact Only.refl _ _) | (with_reducible assumption) | (refine Only.of_none ?_; with_reducible assumption) | (with_reducible refine Only.drewN ?_ _) | (with_reducible refine Only.drew ?_) | (with_reducible refine Only.alloc ?_ _) | (with_reducible refine Only.setCell ?_ ?_ _) | (with_reducible refine Only.then0 ?_ (by with_reducible assumption)) | (with_reducible refine Only.thenN ?_ (by with_reducible assumption) ?_) | (with_reducible refine Only.trans ?_ (by with_reducible assumption)) | (refine .inl ?_; first | rfl | (simp; done) | (simp [Ar.blk]; done)) | (refine .inr ?_; first | omega | (simp; done) | (simp; omega) | exact Only.size (by with_reducible assumption) | (refine Nat.le_trans (Only.size (by with_reducible assumption)) ?_; simp; done)))))).out.mono ?_; intro e w6 h6; obtain ⟨rfl, hu6, o6⟩ := h6.some; have d0 := hu6.c0.cell; have d1 := hu6.c1.cell; have d2 := hu6.c2.cell; have d3 := hu6.c3.cell; have d4 := hu6.c4.cell; have d5 := hu6.c5.cell; have z6 := cell_lt d0; clear h6) | (go_at_call 45; refine (HK _).out.mono ?_; rintro e w7 ⟨rfl, o7⟩))
                all_goals
                  go_wp2_with fail
                  go_roundw
                  case rel => exact ⟨j + 1, by omega, by go_num, by rw [HE.out]; rfl, by rw [HE.out]; exact HR.out.step ((Only.of_none oW0).trans (Only.then0 (Only.trans (Only.of_none (by repeat' (first | (with_reducible exact Only.refl _ _) | (with_reducible assumption) | (refine Only.of_none ?_; with_reducible assumption) | (with_reducible refine Only.drewN ?_ _) | (with_reducible refine Only.drew ?_) | (with_reducible refine Only.alloc ?_ _) | (with_reducible refine Only.setCell ?_ ?_ _) | (with_reducible refine Only.then0 ?_ (by with_reducible assumption)) | (with_reducible refine Only.thenN ?_ (by with_reducible assumption) ?_) | (with_reducible refine Only.trans ?_ (by with_reducible assumption)) | (refine .inl ?_; first | rfl | (simp; done) | (simp [Ar.blk]; done)) | (refine .inr ?_; first | omega | (simp; done) | (simp; omega) | exact Only.size (by with_reducible assumption) | (refine Nat.le_trans (Only.size (by with_reducible assumption)) ?_; simp; done))))) o6) (by repeat' (first | (with_reducible exact Only.refl _ _) | (with_reducible assumption) | (refine Only.of_none ?_; with_reducible assumption) | (with_reducible refine Only.drewN ?_ _) | (with_reducible refine Only.drew ?_) | (with_reducible refine Only.alloc ?_ _) | (with_reducible refine Only.setCell ?_ ?_ _) | (with_reducible refine Only.then0 ?_ (by with_reducible assumption)) | (with_reducible refine Only.thenN ?_ (by with_reducible assumption) ?_) | (with_reducible refine Only.trans ?_ (by with_reducible assumption)) | (refine .inl ?_; first | rfl | (simp; done) | (simp [Ar.blk]; done)) | (refine .inr ?_; first | omega | (simp; done) | (simp; omega) | exact Only.size (by with_reducible assumption) | (refine Nat.le_trans (Only.size (by with_reducible assumption)) ?_; simp; done)))))) (fun t h => by cases h)⟩
                  case measure => simp [intOf]; omega
        have HE := Lib.hid (show foldP s (xs.take (j + 1)) = none from by
          rw [etk, foldP_snoc, ht]
          simp only [Option.bind_some, Sn.step, Sn.raw, if_neg q1, if_neg q2, if_neg q3, if_neg q4, if_neg q5]
          rfl)
        clear ht hR etk T1 T2 T3 T4 T5
        by_cases q0 : 0 < kd
        · have t3 : decide (0 < kd) = true := by simpa using q0
          have t4 : decide (kd < 6) = false := by simp; omega
          as_aux_lemma =>
            go_wp2_with fail
            go_quiet (fail)
            go_wp2_with fail
            go_roundw
            case rel => exact ⟨j + 1, by omega, by go_num, by rw [HE.out]; rfl, by rw [HE.out]; exact HR.out.step (Only.of_none (by repeat' (first | (with_reducible exact Only.refl _ _) | (with_reducible assumption) | (refine Only.of_none ?_; with_reducible assumption) | (with_reducible refine Only.drewN ?_ _) | (with_reducible refine Only.drew ?_) | (with_reducible refine Only.alloc ?_ _) | (with_reducible refine Only.setCell ?_ ?_ _) | (with_reducible refine Only.then0 ?_ (by with_reducible assumption)) | (with_reducible refine Only.thenN ?_ (by with_reducible assumption) ?_) | (with_reducible refine Only.trans ?_ (by with_reducible assumption)) | (refine .inl ?_; first | rfl | (simp; done) | (simp [Ar.blk]; done)) | (refine .inr ?_; first | omega | (simp; done) | (simp; omega) | exact Only.size (by with_reducible assumption) | (refine Nat.le_trans (Only.size (by with_reducible assumption)) ?_; simp; done))))) (fun t h => by cases h)⟩
            case measure => simp [intOf]; omega
        · have t3 : decide (0 < kd) = false := by simpa using q0
          as_aux_lemma =>
            go_wp2_with fail
            go_quiet (fail)
            go_wp2_with fail
            go_roundw
            case rel => exact ⟨j + 1, by omega, by go_num, by rw [HE.out]; rfl, by rw [HE.out]; exact HR.out.step (Only.of_none (by repeat' (first | (with_reducible exact Only.refl _ _) | (with_reducible assumption) | (refine Only.of_none ?_; with_reducible assumption) | (with_reducible refine Only.drewN ?_ _) | (with_reducible refine Only.drew ?_) | (with_reducible refine Only.alloc ?_ _) | (with_reducible refine Only.setCell ?_ ?_ _) | (with_reducible refine Only.then0 ?_ (by with_reducible assumption)) | (with_reducible refine Only.thenN ?_ (by with_reducible assumption) ?_) | (with_reducible refine Only.trans ?_ (by with_reducible assumption)) | (refine .inl ?_; first | rfl | (simp; done) | (simp [Ar.blk]; done)) | (refine .inr ?_; first | omega | (simp; done) | (simp; omega) | exact Only.size (by with_reducible assumption) | (refine Nat.le_trans (Only.size (by with_reducible assumption)) ?_; simp; done))))) (fun t h => by cases h)⟩
            case measure => simp [intOf]; omega
    · have t2 : decide (j < n) = false := by simpa using hlt
      have ej : xs.take j = xs := List.take_of_length_le (by omega)
      rw [ej]
      cases hf : foldP s xs with
      | none =>
        have HF := Lib.hid hf
        have Z0 := (hR.cz 0 _ rfl)
        have z0 := Z0.cell
        have z0f := Z0.free
        have z1 := (hR.cz 1 _ rfl).cell
        have z1f := (hR.cz 1 _ rfl).free
        have z2 := (hR.cz 2 _ rfl).cell
        have z2f := (hR.cz 2 _ rfl).free
        have z3 := (hR.cz 3 _ rfl).cell
        have z3f := (hR.cz 3 _ rfl).free
        have z4 := (hR.cz 4 _ rfl).cell
        have z4f := (hR.cz 4 _ rfl).free
        have z5 := (hR.cz 5 _ rfl).cell
        have z5f := (hR.cz 5 _ rfl).free
        clear hf hR Z0
        simp only [Option.isSome_none]
        have hw := HR.out.only
        have SX := six_set (HR.out.cz 0 _ rfl) (HR.out.cz 1 _ rfl) (HR.out.cz 2 _ rfl) (HR.out.cz 3 _ rfl) (HR.out.cz 4 _ rfl) (HR.out.cz 5 _ rfl) (.int .i64 0) (.int .i64 0) (.int .i64 0) (.int .i64 0) (.int .i64 0) (.int .i64 0)
        go_wp2_with fail
        have r0 := SX 0 _ rfl; have r1 := SX 1 _ rfl; have r2 := SX 2 _ rfl; have r3 := SX 3 _ rfl; have r4 := SX 4 _ rfl; have r5 := SX 5 _ rfl
        refine bodyPost_ret (by simp [results, Try.results54, go_sem, r0, r1, r2, r3, r4, r5]; try rfl) rfl ?_
        exact ⟨by rw [← HS.out, HF.out]; rfl, by repeat' (first | (with_reducible exact Only.refl _ _) | (with_reducible assumption) | (refine Only.of_none ?_; with_reducible assumption) | (with_reducible refine Only.drewN ?_ _) | (with_reducible refine Only.drew ?_) | (with_reducible refine Only.alloc ?_ _) | (with_reducible refine Only.setCell ?_ ?_ _) | (with_reducible refine Only.then0 ?_ (by with_reducible assumption)) | (with_reducible refine Only.thenN ?_ (by with_reducible assumption) ?_) | (with_reducible refine Only.trans ?_ (by with_reducible assumption)) | (refine .inl ?_; first | rfl | (simp; done) | (simp [Ar.blk]; done)) | (refine .inr ?_; first | omega | (simp; done) | (simp; omega) | exact Only.size (by with_reducible assumption) | (refine Nat.le_trans (Only.size (by with_reducible assumption)) ?_; simp; done)))⟩
      | some t =>
        have HF := Lib.hid hf
        have ht := hR.co t (by rw [ej]; exact hf)
        have HD := fun W => Lib.hid (s_diff s.a0 s.a1 s.a2 s.a3 s.a4 s.a5 t.a0 t.a1 t.a2 t.a3 t.a4 t.a5 W)
        have hmk : maskN (sev s.a0 s.a1 s.a2 s.a3 s.a4 s.a5) (sev t.a0 t.a1 t.a2 t.a3 t.a4 t.a5) 7 = s.mask t := rfl
        simp only [hmk] at HD
        have HFV := Lib.hid (show foldV ⟨x0, x1, x2, x3, x4, x5⟩ (foldP ⟨x0, x1, x2, x3, x4, x5⟩ xs) = .tuple #[.agg #[.int .i64 t.a0, .int .i64 t.a1, .int .i64 t.a2, .int .i64 t.a3, .int .i64 t.a4, .int .i64 t.a5], .int .u16 (s.mask t : Nat), .int .i64 0] from by rw [← HS.out, HF.out]; rfl)
        generalize s.mask t = mk at HD HFV
        have CZ := fun W (o : Only (fun _ => False) wr W) k v hv => (hR.cz k v hv).only o id
        have es : s.a0 = x0 ∧ s.a1 = x1 ∧ s.a2 = x2 ∧ s.a3 = x3 ∧ s.a4 = x4 ∧ s.a5 = x5 := by rw [HS.out]; exact ⟨rfl, rfl, rfl, rfl, rfl, rfl⟩
        have hcx := hR.cx
        simp only [es.1, es.2.1, es.2.2.1, es.2.2.2.1, es.2.2.2.2.1, es.2.2.2.2.2] at HD hcx
        obtain ⟨y0, y1, y2, y3, y4, y5⟩ := t
        simp only at HD HFV
        have a0 := (hcx 0 _ rfl).cell; have a1 := (hcx 1 _ rfl).cell; have a2 := (hcx 2 _ rfl).cell; have a3 := (hcx 3 _ rfl).cell; have a4 := (hcx 4 _ rfl).cell; have a5 := (hcx 5 _ rfl).cell
        have b0 := ht.c0.cell; have b1 := ht.c1.cell; have b2 := ht.c2.cell; have b3 := ht.c3.cell; have b4 := ht.c4.cell; have b5 := ht.c5.cell
        simp only at b0 b1 b2 b3 b4 b5
        have hw := hR.only
        have KEEP := fun W (o : Only (· = w.heap.size + 1) wr W) => Lib.hid (show W.cell? ⟨w.heap.size, 0, none⟩ = some (.int .i64 x0) ∧ W.cell? ⟨w.heap.size, 1, none⟩ = some (.int .i64 x1) ∧ W.cell? ⟨w.heap.size, 2, none⟩ = some (.int .i64 x2) ∧ W.cell? ⟨w.heap.size, 3, none⟩ = some (.int .i64 x3) ∧ W.cell? ⟨w.heap.size, 4, none⟩ = some (.int .i64 x4) ∧ W.cell? ⟨w.heap.size, 5, none⟩ = some (.int .i64 x5) ∧ W.cell? ⟨w.heap.size + 1 + 1 + 1, 0, none⟩ = some (.int .i64 y0) ∧ W.cell? ⟨w.heap.size + 1 + 1 + 1, 1, none⟩ = some (.int .i64 y1) ∧ W.cell? ⟨w.heap.size + 1 + 1 + 1, 2, none⟩ = some (.int .i64 y2) ∧ W.cell? ⟨w.heap.size + 1 + 1 + 1, 3, none⟩ = some (.int .i64 y3) ∧ W.cell? ⟨w.heap.size + 1 + 1 + 1, 4, none⟩ = some (.int .i64 y4) ∧ W.cell? ⟨w.heap.size + 1 + 1 + 1, 5, none⟩ = some (.int .i64 y5) from ⟨o.cell a0 (by omega), o.cell a1 (by omega), o.cell a2 (by omega), o.cell a3 (by omega), o.cell a4 (by omega), o.cell a5 (by omega), o.cell b0 (by omega), o.cell b1 (by omega), o.cell b2 (by omega), o.cell b3 (by omega), o.cell b4 (by omega), o.cell b5 (by omega)⟩)
        clear hf hR es hcx ht hmk
        simp only [Option.isSome_some]
        go_upto_region 11 with fail
        go_region_held3 (fun W => W.cell? ⟨w.heap.size, 0, none⟩ = some (.int .i64 x0) ∧ W.cell? ⟨w.heap.size, 1, none⟩ = some (.int .i64 x1) ∧ W.cell? ⟨w.heap.size, 2, none⟩ = some (.int .i64 x2) ∧ W.cell? ⟨w.heap.size, 3, none⟩ = some (.int .i64 x3) ∧ W.cell? ⟨w.heap.size, 4, none⟩ = some (.int .i64 x4) ∧ W.cell? ⟨w.heap.size, 5, none⟩ = some (.int .i64 x5) ∧ W.cell? ⟨w.heap.size + 1 + 1 + 1, 0, none⟩ = some (.int .i64 y0) ∧ W.cell? ⟨w.heap.size + 1 + 1 + 1, 1, none⟩ = some (.int .i64 y1) ∧ W.cell? ⟨w.heap.size + 1 + 1 + 1, 2, none⟩ = some (.int .i64 y2) ∧ W.cell? ⟨w.heap.size + 1 + 1 + 1, 3, none⟩ = some (.int .i64 y3) ∧ W.cell? ⟨w.heap.size + 1 + 1 + 1, 4, none⟩ = some (.int .i64 y4) ∧ W.cell? ⟨w.heap.size + 1 + 1 + 1, 5, none⟩ = some (.int .i64 y5))
              (first | (refine (KEEP _ ?_).out; (repeat' (first | (with_reducible exact Only.refl _ _) | (with_reducible assumption) | (refine Only.of_none ?_; with_reducible assumption) | (with_reducible refine Only.drewN ?_ _) | (with_reducible refine Only.drew ?_) | (with_reducible refine Only.alloc ?_ _) | (with_reducible refine Only.setCell ?_ ?_ _) | (with_reducible refine Only.then0 ?_ (by with_reducible assumption)) | (with_reducible refine Only.thenN ?_ (by with_reducible assumption) ?_) | (with_reducible refine Only.trans ?_ (by with_reducible assumption)) | (refine .inl ?_; first | rfl | (simp; done) | (simp [Ar.blk]; done)) | (refine .inr ?_; first | omega | (simp; done) | (simp; omega) | exact Only.size (by with_reducible assumption) | (refine Nat.le_trans (Only.size (by with_reducible assumption)) ?_; simp; done)))); done))
              (first | (go_at_call 51; refine (HD _).out.mono ?_; rintro e w7 ⟨rfl, o7⟩; have OO : Only (fun _ => False) wr w7 := (by repeat' (first | (with_reducible exact Only.refl _ _) | (with_reducible assumption) | (refine Only.of_none ?_; with_reducible assumption) | (with_reducible refine Only.drewN ?_ _) | (with_reducible refine Only.drew ?_) | (with_reducible refine Only.alloc ?_ _) | (with_reducible refine Only.setCell ?_ ?_ _) | (with_reducible refine Only.then0 ?_ (by with_reducible assumption)) | (with_reducible refine Only.thenN ?_ (by with_reducible assumption) ?_) | (with_reducible refine Only.trans ?_ (by with_reducible assumption)) | (refine .inl ?_; first | rfl | (simp; done) | (simp [Ar.blk]; done)) | (refine .inr ?_; first | omega | (simp; done) | (simp; omega) | exact Only.size (by with_reducible assumption) | (refine Nat.le_trans (Only.size (by with_reducible assumption)) ?_; simp; done)))); have z0 := (CZ w7 OO 0 _ rfl).cell; have z0f := (CZ w7 OO 0 _ rfl).free; have z1 := (CZ w7 OO 1 _ rfl).cell; have z1f := (CZ w7 OO 1 _ rfl).free; have z2 := (CZ w7 OO 2 _ rfl).cell; have z2f := (CZ w7 OO 2 _ rfl).free; have z3 := (CZ w7 OO 3 _ rfl).cell; have z3f := (CZ w7 OO 3 _ rfl).free; have z4 := (CZ w7 OO 4 _ rfl).cell; have z4f := (CZ w7 OO 4 _ rfl).free; have z5 := (CZ w7 OO 5 _ rfl).cell; have z5f := (CZ w7 OO 5 _ rfl).free))
        all_goals
          have SX := six_set (CZ w7 OO 0 _ rfl) (CZ w7 OO 1 _ rfl) (CZ w7 OO 2 _ rfl) (CZ w7 OO 3 _ rfl) (CZ w7 OO 4 _ rfl) (CZ w7 OO 5 _ rfl) (.int .i64 y0) (.int .i64 y1) (.int .i64 y2) (.int .i64 y3) (.int .i64 y4) (.int .i64 y5)
          have r0 := SX 0 _ rfl; have r1 := SX 1 _ rfl; have r2 := SX 2 _ rfl; have r3 := SX 3 _ rfl; have r4 := SX 4 _ rfl; have r5 := SX 5 _ rfl
          go_wp2_with fail
          refine bodyPost_ret (by simp [results, Try.results54, go_sem, r0, r1, r2, r3, r4, r5]; try rfl) rfl ?_
          exact ⟨by rw [HFV.out], by repeat' (first | (with_reducible exact Only.refl _ _) | (with_reducible assumption) | (refine Only.of_none ?_; with_reducible assumption) | (with_reducible refine Only.drewN ?_ _) | (with_reducible refine Only.drew ?_) | (with_reducible refine Only.alloc ?_ _) | (with_reducible refine Only.setCell ?_ ?_ _) | (with_reducible refine Only.then0 ?_ (by with_reducible assumption)) | (with_reducible refine Only.thenN ?_ (by with_reducible assumption) ?_) | (with_reducible refine Only.trans ?_ (by with_reducible assumption)) | (refine .inl ?_; first | rfl | (simp; done) | (simp [Ar.blk]; done)) | (refine .inr ?_; first | omega | (simp; done) | (simp; omega) | exact Only.size (by with_reducible assumption) | (refine Nat.le_trans (Only.size (by with_reducible assumption)) ?_; simp; done)))⟩
end Go.Proofs.Ytiiflgihjnlmcaa
