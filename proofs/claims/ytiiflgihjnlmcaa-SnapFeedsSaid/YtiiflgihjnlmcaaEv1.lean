/- SnapFeeds: events that come in. No condition. -/
import Derived.Test.YtiiflgihjnlmcaaEv7
import Derived.Test.YtiiflgihjnlmcaaFlat2
import Derived.Test.YtiiflgihjnlmcaaKit2
namespace Go.Proofs.Ytiiflgihjnlmcaa
set_option linter.unusedVariables false
set_option linter.unusedSimpArgs false
open Go.RowKit Go.Proofs.YtiiflgihjnlmcaaW.PrintWords Go.Proofs.YtiiflgihjnlmcaaW.PrintLast Go.Proofs.YtiiflgihjnlmcaaW.PrintMore Go.Proofs.Ytiiflgihjnlmcaa.PSnapFeeds
open Go.ChangeShapes Go.WideShapes Go.ChangeAt

theorem Try.infoEvent : (Try.prog.info? 161).map (fun i => (i.zero, i.size, i.bytes)) = some (some (.agg #[.int .u8 0, .int .i64 0, .int .i64 0, .int .i64 0, .int .i64 0, .int .u8 0, .int .i64 0, .int .i64 0, .int .i64 0]), 9, 72) := by kernel_rfl
theorem info_of {P : Program} {t : TypeId} {z : Value} {s b : Nat} (h : (P.info? t).map (fun i => (i.zero, i.size, i.bytes)) = some (some z, s, b)) : ∃ i, P.info? t = some i ∧ i.zero = some z ∧ i.size = s ∧ i.bytes = b := by
  cases hq : P.info? t with
  | none => rw [hq] at h; cases h
  | some i => rw [hq] at h; simp at h; exact ⟨i, rfl, h.1, h.2.1, h.2.2⟩

/-- An event's cells. -/
def evE (x : S161) : List Value := [.int .u8 x.f0, .int .i64 x.f1, .int .i64 x.f2, .int .i64 x.f3, .int .i64 x.f4, .int .u8 x.f5, .int .i64 x.f6, .int .i64 x.f7, .int .i64 x.f8]
def evV (xs : List S161) : List Value := xs.flatMap evE
theorem evE_len (x : S161) : (evE x).length = 9 := rfl
theorem evV_length (l : List S161) : (evV l).length = l.length * 9 := by
  induction l with
  | nil => rfl
  | cons x t ih => simp only [evV, List.flatMap_cons, List.length_append, evE_len, List.length_cons] at ih ⊢; omega
theorem evV_one (l : List S161) : ∀ u ∈ evV l, u.oneCell' = true := by
  intro u hu
  simp only [evV, List.mem_flatMap] at hu
  obtain ⟨x, _, hx⟩ := hu
  simp [evE] at hx
  rcases hx with rfl | rfl | rfl | rfl | rfl | rfl | rfl | rfl | rfl <;> rfl
theorem evV_split {l : List S161} {j : Nat} {u : Value} (h : (evV l)[j]? = some u) : ∃ i x r, j = i * 9 + r ∧ l[i]? = some x ∧ (evE x)[r]? = some u := by
  have hlt : j < (evV l).length := (List.getElem?_eq_some_iff.1 h).1
  rw [evV_length] at hlt
  have hi : j / 9 < l.length := by omega
  have hr : j % 9 < (evE l[j / 9]).length := by rw [evE_len]; omega
  have h1 := flat_at (enc := evE) (sz := 9) evE_len (List.getElem?_eq_getElem hi) (i := j % 9) (List.getElem?_eq_getElem hr)
  have hj : j / 9 * 9 + j % 9 = j := by omega
  rw [hj] at h1
  exact ⟨j / 9, l[j / 9], j % 9, hj.symm, List.getElem?_eq_getElem hi, by rw [List.getElem?_eq_getElem hr]; exact h1.symm.trans h⟩

def toE : List Value → S161
  | [.int _ x0, .int _ x1, .int _ x2, .int _ x3, .int _ x4, .int _ x5, .int _ x6, .int _ x7, .int _ x8] => ⟨x0, x1, x2, x3, x4, x5, x6, x7, x8⟩
  | _ => z161
theorem row_event {r : List Value} (h : Fits [.i .u8, .i .i64, .i .i64, .i .i64, .i .i64, .i .u8, .i .i64, .i .i64, .i .i64] r) : r = evE (toE r) := by
  obtain ⟨x0, _, rfl, _, h⟩ := fits_i h
  obtain ⟨x1, _, rfl, _, h⟩ := fits_i h
  obtain ⟨x2, _, rfl, _, h⟩ := fits_i h
  obtain ⟨x3, _, rfl, _, h⟩ := fits_i h
  obtain ⟨x4, _, rfl, _, h⟩ := fits_i h
  obtain ⟨x5, _, rfl, _, h⟩ := fits_i h
  obtain ⟨x6, _, rfl, _, h⟩ := fits_i h
  obtain ⟨x7, _, rfl, _, h⟩ := fits_i h
  obtain ⟨x8, _, rfl, _, h⟩ := fits_i h
  obtain rfl := fits_nil h
  rfl

/-- The cells that are there. -/
def EvIn (w : World) (a : Option Addr) (n cap : Nat) (cs : List Value) : Prop :=
  (a = none ∧ n = 0 ∧ cap = 0) ∨ ∃ ad, a = some ad ∧ ∀ j u, cs[j]? = some u → w.cell? (ad.add j) = some u
theorem EvIn.only {w w' : World} {a : Option Addr} {n cap : Nat} {cs : List Value} (h : EvIn w a n cap cs) {S : Nat → Prop} (ho : Only S w w') (hS : ∀ i, i < w.heap.size → ¬ S i) : EvIn w' a n cap cs := by
  rcases h with h | ⟨ad, ha, hc⟩
  · exact .inl h
  · refine .inr ⟨ad, ha, fun j u hu => ?_⟩
    have := hc j u hu
    have hb := World.block_lt_of_cell? w _ this
    exact (World.cell?_of_block (w := w) (ho.block _ hb (hS _ hb))).trans this
theorem events_in {w : World} {a : Option Addr} {len cap : Nat} {rows : List (List Value)} (hs : SliceIn w a len cap [.i .u8, .i .i64, .i .i64, .i .i64, .i .i64, .i .u8, .i .i64, .i .i64, .i .i64] rows) :
    ∃ xs : List S161, xs.length = len ∧ EvIn w a len cap (evV xs) := by
  refine ⟨rows.map toE, by rw [List.length_map]; exact hs.1, ?_⟩
  rcases hs.2.2 with h | ⟨x, ha, _, _, hc⟩
  · exact .inl h
  · refine .inr ⟨x, ha, fun j u hu => ?_⟩
    obtain ⟨i, y, r, rfl, hy, hu⟩ := evV_split hu
    rw [List.getElem?_map, Option.map_eq_some_iff] at hy
    obtain ⟨row, hrow, rfl⟩ := hy
    rw [← row_event (hs.2.1 row (List.mem_of_getElem? hrow))] at hu
    exact hc i row hrow r u hu
/-- So it reads. -/
theorem EvIn.reads {w : World} {a : Option Addr} {n cap : Nat} {xs : List S161} (h : EvIn w a n cap (evV xs)) (hn : xs.length = n) (hle : n ≤ 9223372036854775807) : Kd.C k161 w a n xs := by
  refine ⟨hn, hle, fun h0 => ?_⟩
  rcases h with ⟨_, e, _⟩ | ⟨ad, ha, hc⟩
  · omega
  · refine ⟨ad, ha, fun j p hj => ⟨_, rfl, k161_mk w p, fun i u hu => ?_⟩⟩
    exact hc _ u (flat_at (enc := evE) (sz := 9) evE_len hj hu)
end Go.Proofs.Ytiiflgihjnlmcaa
