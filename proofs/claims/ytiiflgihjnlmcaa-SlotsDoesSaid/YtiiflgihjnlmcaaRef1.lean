/- The document's arena in memory: what lies where; where, is, Len, First. Conditions: an arena as its New lays it, the numbers of the rows distinct and within the room. -/
import Derived.Test.YtiiflgihjnlmcaaSlotsK
import Derived.Laws.AppendOwn
namespace Go.Proofs.Ytiiflgihjnlmcaa
set_option linter.unusedVariables false
set_option linter.unusedSimpArgs false
open Go.RowKit

/-- A row's cells. -/
def thV (V : Nat → Int) (l : List Nat) : List Value := l.flatMap fun n : Nat => [Value.int .i64 (n : Int), Value.int .i64 (V n)]
theorem thV_append (V : Nat → Int) (l m : List Nat) : thV V (l ++ m) = thV V l ++ thV V m := by simp [thV]
theorem thV_length (V : Nat → Int) (l : List Nat) : (thV V l).length = l.length * 2 := by
  induction l with
  | nil => rfl
  | cons x t ih => simp only [thV, List.flatMap_cons, List.length_append, List.length_cons, List.length_nil] at ih ⊢; omega
theorem thV_at {V : Nat → Int} {l : List Nat} {i x : Nat} (h : l[i]? = some x) : (thV V l)[i * 2]? = some (.int .i64 x) ∧ (thV V l)[i * 2 + 1]? = some (.int .i64 (V x)) := by
  induction l generalizing i with
  | nil => simp at h
  | cons y t ih =>
    cases i with
    | zero => simp at h; subst h; exact ⟨rfl, rfl⟩
    | succ i =>
      have := ih (i := i) (by simpa using h)
      rw [show (i + 1) * 2 = i * 2 + 2 by omega]
      exact this
theorem thV_congr {V V' : Nat → Int} {l : List Nat} (h : ∀ n ∈ l, V' n = V n) : thV V' l = thV V l := by
  induction l with
  | nil => rfl
  | cons x t ih =>
    have e : thV V' (x :: t) = [.int .i64 x, .int .i64 (V' x)] ++ thV V' t := rfl
    rw [e, h x (by simp), ih fun n hn => h n (by simp [hn])]
    rfl
theorem thV_one (V : Nat → Int) (l : List Nat) : ∀ u ∈ thV V l, u.oneCell' = true := by
  intro u hu
  obtain ⟨n, _, hu⟩ := List.mem_flatMap.1 hu
  simp at hu
  rcases hu with rfl | rfl <;> rfl

/-- Is a number in a row? -/
def usedB (nr : Nat) (R : Nat → List Nat) (n : Nat) : Bool := decide (n ∈ rowsL R nr)
theorem usedB_iff {nr : Nat} {R : Nat → List Nat} {n : Nat} : usedB nr R n = true ↔ ∃ r, r < nr ∧ n ∈ R r := by simp [usedB, mem_rowsL]
theorem usedB_false {nr : Nat} {R : Nat → List Nat} {n : Nat} : usedB nr R n = false ↔ ∀ r, r < nr → n ∉ R r := by
  rw [← Bool.not_eq_true, usedB_iff]
  exact ⟨fun h r hr hn => h ⟨r, hr, hn⟩, fun h ⟨r, hr, hn⟩ => h r hr hn⟩

/-- The numbers of the rows. -/
structure RowsOk (nr room : Nat) (R : Nat → List Nat) : Prop where
  lt : ∀ r, r < nr → ∀ n ∈ R r, n < room
  nd : ∀ r, r < nr → (R r).Nodup
  other : ∀ r s n, r < nr → s < nr → n ∈ R r → n ∈ R s → r = s
  len : ∀ r, r < nr → (R r).length ≤ room

theorem Lay.ok {w : World} {b gl gr gf nr room : Nat} {R : Nat → List Nat} {V : Nat → Int} (h : Lay w b gl gr gf nr room R V) : RowsOk nr room R :=
  ⟨fun r hr n hn => h.lt hr hn, fun r hr => h.nd hr, fun r s n hr hs h1 h2 => h.other hr hs h1 h2, fun r hr => by
    have := nodup_sub (R r) (List.range room) (h.nd hr) (fun x hx => List.mem_range.2 (h.lt hr hx))
    rwa [List.length_range] at this⟩

/-- The document's arena lies at b, its rows' heads at gr, its marks at gu, and the rows beyond base. -/
structure RaU (base : Nat) (w : World) (b gr gu nr room : Nat) (hv : Nat → Value) (R : Nat → List Nat) (V : Nat → Int) (U : Nat → Bool) : Prop where
  c0 : Cell w b 0 (.slice (some ⟨gr, 0, none⟩) nr nr)
  c1 : Cell w b 1 (.int .i64 room)
  c2 : Cell w b 2 (.slice (some ⟨gu, 0, none⟩) room room)
  us : ∀ n, n < room → Cell w gu n (.bool (U n))
  hd : ∀ i, i < nr → Cell w gr i (hv i)
  own : ∀ i, i < nr → w.ownsRow base 221 2 (hv i) (R i).length (thV V (R i))
  dis : ∀ i j, i < nr → j < nr → i ≠ j → (hv i).ownBlock = none ∨ (hv i).ownBlock ≠ (hv j).ownBlock
  lows : b < base ∧ gr < base ∧ gu < base
  ne : b ≠ gr ∧ b ≠ gu ∧ gr ≠ gu
  low : base ≤ w.heap.size
  small : nr ≤ 65536 ∧ room ≤ 65536

/-- Its marks tell which numbers the rows have. -/
abbrev RaAt (base : Nat) (w : World) (b gr gu nr room : Nat) (hv : Nat → Value) (R : Nat → List Nat) (V : Nat → Int) : Prop := RaU base w b gr gu nr room hv R V (usedB nr R)

/-- The blocks of the document's arena. -/
def RaB (base b gr gu : Nat) (i : Nat) : Prop := i = b ∨ i = gr ∨ i = gu ∨ base ≤ i

theorem ownsRow_only {w w' : World} {S : Nat → Prop} {base : Nat} {e : TypeId} {size : Nat} {v : Value} {n : Nat} {xs : List Value} (h : w.ownsRow base e size v n xs) (k : Only S w w') (hS : ∀ i, base ≤ i → ¬ S i) : w'.ownsRow base e size v n xs := by
  refine ⟨h.1, ?_⟩
  rcases h.2 with hn | ⟨g, cap, cur, rfl, hb, hgg, rest⟩
  · exact .inl hn
  · exact .inr ⟨g, cap, cur, rfl, hb, (k.block g (Array.getElem?_eq_some_iff.1 hgg).1 (hS g hb)).trans hgg, rest⟩

theorem own_cell {w : World} {base : Nat} {e : TypeId} {size : Nat} {v : Value} {n : Nat} {xs : List Value} (h : w.ownsRow base e size v n xs) (hn : 0 < n) : ∃ g cap, v = .slice (some ⟨g, 0, none⟩) n cap ∧ n ≤ cap ∧ base ≤ g ∧ g < w.heap.size ∧ ∀ j u, xs[j]? = some u → Cell w g j u := by
  rcases h.2 with ⟨_, e⟩ | ⟨g, cap, cur, rfl, hb, hgg, h1, h2, h3, h4⟩
  · omega
  · refine ⟨g, cap, rfl, h1, hb, (Array.getElem?_eq_some_iff.1 hgg).1, fun j u hu => ?_⟩
    have hc := h.cells rfl j u hu
    rw [show (⟨g, 0, none⟩ : Addr).add j = ⟨g, j, none⟩ by unfold Addr.add; split <;> simp_all] at hc
    exact ⟨hc, by simp [World.frozen?, hgg]⟩

theorem own_slice {w : World} {base : Nat} {e : TypeId} {size : Nat} {v : Value} {n : Nat} {xs : List Value} (h : w.ownsRow base e size v n xs) : ∃ a cap, v = .slice a n cap ∧ n ≤ cap := by
  rcases h.2 with ⟨rfl, rfl⟩ | ⟨g, cap, cur, rfl, _, _, h1, _⟩
  · exact ⟨_, _, rfl, Nat.le_refl _⟩
  · exact ⟨_, _, rfl, h1⟩

section
variable {base : Nat} {w : World} {b gr gu nr room : Nat} {hv : Nat → Value} {R : Nat → List Nat} {V : Nat → Int}
theorem RaU.only {U : Nat → Bool} {w' : World} (h : RaU base w b gr gu nr room hv R V U) {S : Nat → Prop} (ho : Only S w w') (hS : ∀ i, RaB base b gr gu i → ¬ S i) : RaU base w' b gr gu nr room hv R V U :=
  have hb := hS b (.inl rfl); have hr := hS gr (.inr (.inl rfl)); have hu := hS gu (.inr (.inr (.inl rfl)))
  ⟨h.c0.only ho hb, h.c1.only ho hb, h.c2.only ho hb, fun n hn => (h.us n hn).only ho hu, fun i hi => (h.hd i hi).only ho hr,
    fun i hi => ownsRow_only (h.own i hi) ho (fun j hj => hS j (.inr (.inr (.inr hj)))), h.dis, h.lows, h.ne, Nat.le_trans h.low ho.size, h.small⟩

/-- One mark is written anew. -/
theorem RaU.mark {U : Nat → Bool} (h : RaU base w b gr gu nr room hv R V U) (n : Nat) (q : Bool) : RaU base (w.setCell ⟨gu, n, none⟩ (.bool q)) b gr gu nr room hv R V (upd U n q) := by
  have ho := (Only.refl (· = gu) w).setCell (p := ⟨gu, n, none⟩) (.inl rfl) (.bool q)
  have hlo := h.lows
  have hne := h.ne
  refine ⟨h.c0.only ho (by omega), h.c1.only ho (by omega), h.c2.only ho (by omega), fun k hk => ?_, fun i hi => (h.hd i hi).only ho (by omega), fun i hi => ownsRow_only (h.own i hi) ho (fun j hj e => by omega), h.dis, h.lows, h.ne, Nat.le_trans h.low ho.size, h.small⟩
  by_cases e : k = n
  · subst e; rw [upd_same]; exact (h.us k hk).set _
  · rw [upd_other e]; exact (h.us k hk).far (off_ne (fun e' => e e'.symm)) _

theorem RaU.relabel {U U' : Nat → Bool} (h : RaU base w b gr gu nr room hv R V U) (e : ∀ n, n < room → U n = U' n) : RaU base w b gr gu nr room hv R V U' :=
  ⟨h.c0, h.c1, h.c2, fun n hn => by rw [← e n hn]; exact h.us n hn, h.hd, h.own, h.dis, h.lows, h.ne, h.low, h.small⟩

/-- A row is another one. -/
theorem RaU.row {U : Nat → Bool} (h : RaU base w b gr gu nr room hv R V U) {r : Nat} (hr : r < nr) {w' : World} {v' : Value} {l' : List Nat} {V' : Nat → Int} (ho : Only (fun i => (hv r).ownBlock = some i) w w')
    (hown : w'.ownsRow base 221 2 v' l'.length (thV V' l')) (hloc : v'.ownBlock = none ∨ v'.ownBlock = (hv r).ownBlock ∨ ∃ g, v'.ownBlock = some g ∧ w.heap.size ≤ g) (hV : ∀ i, i < nr → i ≠ r → ∀ n ∈ R i, V' n = V n) :
    RaU base (w'.setCell ⟨gr, r, none⟩ v') b gr gu nr room (upd hv r v') (upd R r l') V' U ∧ Only (RaB base b gr gu) w (w'.setCell ⟨gr, r, none⟩ v') := by
  have hlo := h.lows
  have hne := h.ne
  have hlow := h.low
  have hrow : ∀ g, (hv r).ownBlock = some g → base ≤ g ∧ g < w.heap.size := fun g e => (h.own r hr).lt g e
  have o3 := (Only.refl (· = gr) w').setCell (p := ⟨gr, r, none⟩) (.inl rfl) v'
  have nb : ∀ g, g < base → ¬ (hv r).ownBlock = some g := fun g hg e => by have := hrow g e; omega
  have o2 : Only (RaB base b gr gu) w (w'.setCell ⟨gr, r, none⟩ v') := (ho.mono fun i _ e => .inr (.inr (.inr (hrow i e).1))).setCell (.inl (.inr (.inl rfl))) v'
  refine ⟨⟨?_, ?_, ?_, ?_, ?_, ?_, ?_, h.lows, h.ne, Nat.le_trans h.low o2.size, h.small⟩, o2⟩
  · exact (h.c0.only ho (nb _ hlo.1)).only o3 (by omega)
  · exact (h.c1.only ho (nb _ hlo.1)).only o3 (by omega)
  · exact (h.c2.only ho (nb _ hlo.1)).only o3 (by omega)
  · exact fun k hk => ((h.us k hk).only ho (nb _ hlo.2.2)).only o3 (by omega)
  · intro i hi
    have hd := (h.hd i hi).only ho (nb _ hlo.2.1)
    by_cases e : i = r
    · subst e; rw [upd_same]; exact hd.set v'
    · rw [upd_other e]; exact hd.far (off_ne (fun e' => e e'.symm)) _
  · intro i hi
    by_cases e : i = r
    · subst e; rw [upd_same, upd_same]; exact ownsRow_only hown o3 (fun j hj e => by omega)
    · rw [upd_other e, upd_other e, thV_congr (hV i hi e)]
      refine ownsRow_only ?_ o3 (fun j hj e => by omega)
      have own := h.own i hi
      refine ⟨own.1, ?_⟩
      rcases own.2 with hn | ⟨g', cap', cur, e', hb, hgh, rest⟩
      · exact .inl hn
      · refine .inr ⟨g', cap', cur, e', hb, (ho.block g' (Array.getElem?_eq_some_iff.1 hgh).1 (fun eq => ?_)).trans hgh, rest⟩
        rcases h.dis r i hr hi (fun q => e q.symm) with q | q
        · rw [eq] at q; cases q
        · rw [e', eq] at q; exact q rfl
  · intro i j hi hj hij
    have hlt := fun i hi g e => ((h.own i hi).lt g e).2
    by_cases e1 : i = r
    · subst e1
      rw [upd_same, upd_other (fun e => hij e.symm)]
      rcases hloc with e | e | ⟨g, e, hg⟩
      · exact .inl e
      · rw [e]; exact h.dis i j hi hj hij
      · right; rw [e]; intro e'
        have := hlt j hj _ e'.symm
        omega
    · rw [upd_other e1]
      by_cases e2 : j = r
      · subst e2
        rw [upd_same]
        rcases hloc with e | e | ⟨g, e, hg⟩
        · rcases hx : (hv i).ownBlock with _ | g
          · exact .inl rfl
          · right; rw [e]; exact fun q => by cases q
        · rw [e]; exact h.dis i j hi hj hij
        · right; rw [e]; intro e'
          have := hlt i hi _ e'
          omega
      · rw [upd_other e2]; exact h.dis i j hi hj hij

theorem RaAt.congr {V' : Nat → Int} (h : RaAt base w b gr gu nr room hv R V) (hV : ∀ r, r < nr → ∀ n ∈ R r, V' n = V n) : RaAt base w b gr gu nr room hv R V' :=
  ⟨h.c0, h.c1, h.c2, h.us, h.hd, fun i hi => by rw [thV_congr (hV i hi)]; exact h.own i hi, h.dis, h.lows, h.ne, h.low, h.small⟩

/-- A row's place k, as it is read. -/
theorem RaAt.atU {U : Nat → Bool} (h : RaU base w b gr gu nr room hv R V U) {r k x : Nat} (hr : r < nr) (hk : (R r)[k]? = some x) :
    ∃ g cap, hv r = .slice (some ⟨g, 0, none⟩) (R r).length cap ∧ (R r).length ≤ cap ∧ base ≤ g ∧ g < w.heap.size ∧ Cell w g (k * 2) (.int .i64 x) ∧ Cell w g (k * 2 + 1) (.int .i64 (V x)) := by
  have hlt := (List.getElem?_eq_some_iff.1 hk).1
  obtain ⟨g, cap, e, h0, h1, h2, h3⟩ := own_cell (h.own r hr) (by omega)
  obtain ⟨t1, t2⟩ := thV_at (V := V) hk
  exact ⟨g, cap, e, h0, h1, h2, h3 _ _ t1, h3 _ _ t2⟩

theorem RaAt.at_ (h : RaAt base w b gr gu nr room hv R V) {r k x : Nat} (hr : r < nr) (hk : (R r)[k]? = some x) :
    ∃ g cap, hv r = .slice (some ⟨g, 0, none⟩) (R r).length cap ∧ (R r).length ≤ cap ∧ base ≤ g ∧ g < w.heap.size ∧ Cell w g (k * 2) (.int .i64 x) ∧ Cell w g (k * 2 + 1) (.int .i64 (V x)) := RaAt.atU h hr hk

theorem ra_is (h : RaAt base w b gr gu nr room hv R V) (r : Int) (q : Bool) (hq : decide (0 ≤ r ∧ r < nr) = q) :
    Calls Try.prog 138 #[.pointer (some ⟨b, 0, none⟩), .int .i64 r] w fun e w' => e = .returned (.bool q) ∧ w = w' := by
  have c0 := h.c0.cell
  have hlt := cell_lt c0
  clear h
  subst hq
  by_cases h1 : 0 ≤ r
  · have t1 : decide (0 ≤ r ∧ r < nr) = decide (r < nr) := by simp [h1]
    rw [t1]
    go_enter Try.func138, Try.ntmps138
    go_wp2_with fail
    go_returns
    first | exact ⟨rfl, rfl⟩ | simp
  · have t1 : decide (0 ≤ r ∧ r < nr) = false := by simp [h1]
    rw [t1]
    go_enter Try.func138, Try.ntmps138
    go_wp2_with fail
    go_returns
    first | exact ⟨rfl, rfl⟩ | simp

theorem ra_where_no (h : RaAt base w b gr gu nr room hv R V) (n : Int) (hn : ∀ r, r < nr → ∀ m ∈ R r, (m : Int) ≠ n) :
    Calls Try.prog 139 #[.pointer (some ⟨b, 0, none⟩), .int .i64 n] w fun e w' => e = .returned (.tuple #[.int .i64 (-1), .int .i64 (-1), .bool false]) ∧ w = w' := by
  have c1 := h.c1.cell
  have c2 := h.c2.cell
  have hlt := cell_lt c1
  by_cases h1 : n < 0
  · have t1 : decide (n < 0) = true := by simpa using h1
    clear h hn
    go_enter Try.func139, Try.ntmps139
    go_wp2_with fail
    go_returns
    exact ⟨rfl, rfl⟩
  · have t1 : decide (n < 0) = false := by simpa using h1
    obtain ⟨n, rfl⟩ : ∃ k : Nat, n = k := ⟨n.toNat, by omega⟩
    by_cases h2 : n < room
    · have t2 : decide (room ≤ n) = false := by simpa using h2
      have u := (h.us n h2).cell
      rw [usedB_false.2 (fun r hr hm => hn r hr n hm rfl)] at u
      have hgu := cell_lt u
      have i1 : (0 : Int) ≤ (n : Int) ∧ (n : Int) < (room : Int) := by omega
      have hs := h.small
      clear h hn
      go_enter Try.func139, Try.ntmps139
      go_wp2_with fail
      go_returns
      exact ⟨rfl, rfl⟩
    · have t2 : decide (room ≤ n) = true := by simpa using h2
      clear h hn
      go_enter Try.func139, Try.ntmps139
      go_wp2_with fail
      go_returns
      exact ⟨rfl, rfl⟩

set_option maxHeartbeats 2000000 in
set_option maxRecDepth 100000 in
theorem ra_where (h : RaAt base w b gr gu nr room hv R V) (ok : RowsOk nr room R) (r n : Nat) (hr : r < nr) (l1 l2 : List Nat) (hs : R r = l1 ++ n :: l2) :
    Calls Try.prog 139 #[.pointer (some ⟨b, 0, none⟩), .int .i64 n] w fun e w' => e = .returned (.tuple #[.int .i64 r, .int .i64 l1.length, .bool true]) ∧ w = w' := by
  have c0 := h.c0.cell
  have c1 := h.c1.cell
  have c2 := h.c2.cell
  have hlt := cell_lt c1
  have hsm := h.small
  have hnr : n ∈ R r := by rw [hs]; simp
  have h2 : n < room := ok.lt r hr n hnr
  have u := (h.us n h2).cell
  rw [usedB_iff.2 ⟨r, hr, hnr⟩] at u
  have hgu := cell_lt u
  have i1 : (0 : Int) ≤ (n : Int) ∧ (n : Int) < (room : Int) := by omega
  have t1 : decide ((n : Int) < 0) = false := by simp
  have t2 : decide (room ≤ n) = false := by simpa using h2
  obtain ⟨p, hp⟩ : ∃ p, p = l1.length := ⟨_, rfl⟩
  rw [← hp]
  have hk : ∀ j k, j < nr → (R j)[k]? = some n → j = r ∧ k = p := fun j k hj hjk => by
    have e1 := ok.other j r n hj hr (List.mem_of_getElem? hjk) hnr
    subst e1
    have e2 : (R j)[p]? = some n := by rw [hs, hp]; simp
    have nd := ok.nd j hj
    obtain ⟨q1, q2⟩ := List.getElem?_eq_some_iff.1 hjk
    obtain ⟨q3, q4⟩ := List.getElem?_eq_some_iff.1 e2
    exact ⟨rfl, (List.getElem_inj (h₀ := q1) (h₁ := q3) nd).1 (q2.trans q4.symm)⟩
  have hpl : p < (R r).length ∧ (R r)[p]? = some n := by rw [hs, hp]; simp
  have hlen := fun j hj => ok.len j hj
  have HH := Lib.hid h
  have HK := Lib.hid hk
  have HPL := Lib.hid hpl
  have HLEN := Lib.hid hlen
  clear h ok hs hnr hk hpl hp hlen
  go_enter Try.func139, Try.ntmps139
  go_wp2_with fail
  go_loop [7] (fun s => ∃ j : Nat, j ≤ r ∧ s = .int .i64 j) (fun s => r + 1 - (intOf s).toNat)
  case atStart => exact ⟨0, by omega, rfl⟩
  case round =>
    obtain ⟨j, hj, rfl⟩ := hrel
    have hjn : j < nr := by omega
    have tj : decide (j < nr) = true := by simpa using hjn
    have ij : (0 : Int) ≤ (j : Int) ∧ (j : Int) < (nr : Int) := by omega
    have hd := (HH.out.hd j hjn).cell
    have hown := HH.out.own j hjn
    obtain ⟨aj, cj, hvj, hcj⟩ := own_slice hown
    rw [hvj] at hd
    have hll := HLEN.out j hjn
    obtain ⟨len, hl⟩ : ∃ len, len = (R j).length := ⟨_, rfl⟩
    rw [← hl] at hd hll hcj
    have hgr := cell_lt hd
    have HL := Lib.hid hl
    have HVJ := Lib.hid hvj
    clear hown hl hvj
    go_wp2_with fail
    go_loop [8] (fun s => ∃ k : Nat, k ≤ len ∧ (j = r → k ≤ p) ∧ s = .int .i64 k) (fun s => len - (intOf s).toNat)
    case atStart => exact ⟨0, by omega, fun _ => by omega, rfl⟩
    case round =>
      obtain ⟨k, hk, hkp, rfl⟩ := hrel
      by_cases hlt2 : k < len
      · have tk : decide (k < len) = true := by simpa using hlt2
        have ik : (0 : Int) ≤ (k : Int) ∧ (k : Int) < (len : Int) := by omega
        obtain ⟨x, hx⟩ : ∃ x, (R j)[k]? = some x := ⟨_, List.getElem?_eq_getElem (by rw [← HL.out]; exact hlt2)⟩
        obtain ⟨g, cap, e, _, hg1, hg2, v1, _⟩ := HH.out.at_ hjn hx
        rw [HVJ.out, ← HL.out] at e
        obtain ⟨rfl, rfl⟩ : aj = some ⟨g, 0, none⟩ ∧ cj = cap := by injection e with e1 e2 e3; exact ⟨e1, e3⟩
        have v1 := v1.cell
        by_cases he : x = n
        · subst he
          obtain ⟨rfl, rfl⟩ := HK.out j k hjn hx
          have te : (x == x) = true := by simp
          clear hx e
          go_wp2_with fail
          go_returns
          exact ⟨rfl, rfl⟩
        · have te : (x == n) = false := by simpa using he
          have te' : ((x : Int) == (n : Int)) = false := by simp; omega
          have w1 : IntKind.i64.wrap ((k : Int) + 1) = (k : Int) + 1 := by rw [IntKind.wrap_i64]; omega
          have hne : j = r → k ≠ p := fun e1 e2 => by
            subst e1 e2
            have := HPL.out.2
            rw [hx] at this
            exact he (by injection this)
          have HNE := Lib.hid hne
          have HKP := Lib.hid hkp
          clear hx e he hne hkp
          go_wp2_with fail
          go_round
          case rel => exact ⟨k + 1, by omega, fun e => by have := HKP.out e; have := HNE.out e; omega, by go_num⟩
          case measure => simp [intOf]; omega
      · have tk : decide (k < len) = false := by simpa using hlt2
        have hjr : j ≠ r := fun e => by
          subst e
          have := HPL.out.1
          rw [← HL.out] at this
          have := hkp rfl
          omega
        have w1 : IntKind.i64.wrap ((j : Int) + 1) = (j : Int) + 1 := by rw [IntKind.wrap_i64]; omega
        have HJR := Lib.hid hjr
        clear hjr hkp
        go_wp2_with fail
        go_round
        case rel => exact ⟨j + 1, by have := HJR.out; omega, by go_num⟩
        case measure => simp [intOf]; omega
end
end Go.Proofs.Ytiiflgihjnlmcaa
