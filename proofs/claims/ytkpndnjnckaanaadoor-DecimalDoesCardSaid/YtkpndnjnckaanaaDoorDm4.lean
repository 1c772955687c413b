/- Decimal: Go's functions of texts by the shelf's contracts; may, run. Conditions: FormatInt's table is laid. -/
import Derived.Test.YtkpndnjnckaanaaDoorDm2
import Derived.Test.YtkpndnjnckaanaaDoorDm3
import Derived.Test.YtkpndnjnckaanaaDoorDmS
import Derived.Ground.NamesProg
import Derived.Shelf.Strings.SlTrimAscii
import Derived.Shelf.Strings.Repeat
import Derived.Shelf.Strconv.Itoa4
import Derived.Lib.SmallJoins
import Derived.Lib.AppendIntMem
namespace Go.Proofs
open Go.Shelf
theorem Tryd.dmExtra : Builder.Extra Tryd.prog Tryd.dmRep_ren := {
  sizeBuilder := by kernel_rfl
  liesBuilder := by kernel_rfl
  t5 := Tryd.dmRep.t5
  a5 := Tryd.dmRep.a5
  z5 := Tryd.dmRep.z5
  v5 := Tryd.dmRep.v5
  infoByte := by kernel_rfl
  cellsByte := by kernel_rfl
  sizeByte := by kernel_rfl
  neB5 := by decide }
end Go.Proofs
namespace Go.Proofs.YtkpndnjnckaanaaDoor
set_option linter.unusedVariables false
set_option linter.unusedSimpArgs false
open Go.RowKit Go.Shelf

/-- New blocks alone, behind what lay there. -/
def Gw (w w' : World) : Prop := Below w.heap.size w w'
theorem Gw.refl (w : World) : Gw w w := Below.refl _ _
theorem Gw.trans {a b c : World} (h : Gw a b) (k : Gw b c) : Gw a c := Below.trans h (Below.mono k h.size)
/-- FormatInt's table. -/
def Tb (w : World) : Prop := Lib.TabIs Tryd.prog w "internal/strconv.uint64pow10" .u64 Lib.pow10Tab
theorem pow10_some : (Tryd.prog.globalNamed "internal/strconv.uint64pow10").isSome = true := by kernel_rfl
theorem pow10_named : ∃ g, Tryd.prog.globalNamed "internal/strconv.uint64pow10" = some g := Option.isSome_iff_exists.1 pow10_some
theorem Tb.keep {w w' : World} (h : Tb w) (o : Gw w w') : Tb w' := by
  obtain ⟨g, hg⟩ := pow10_named
  exact Go.Joins.tab_stays hg h o (Nat.le_refl _)

theorem d_fmt (n : Int) (hn : fits64 n = true) (w : World) (ht : Tb w) : Calls Tryd.prog 23 #[.int .i64 n, .int .i64 10] w fun e w' => ∃ r : ByteArray, e = .returned (.string r) ∧ r.data.toList = Lib.itoa n ∧ Gw w w' := by
  have h : -9223372036854775808 ≤ n ∧ n ≤ 9223372036854775807 := of_decide_eq_true hn
  exact (Any.strconv_FormatInt_10 Tryd.dmFmt n h.1 h.2 w ht).mono fun e w' ⟨he, k, os, hw⟩ => ⟨_, he, rfl, by rw [hw]; exact Lib.below_grow _ _ (Nat.le_refl _) _ _⟩
theorem rep48 : ∀ c, Lib.repeatL [48] c = List.replicate c 48
  | 0 => rfl
  | c + 1 => by rw [Lib.repeatL, rep48 c]; rfl
theorem d_rep (c : Nat) (hc : c ≤ 1000) (w : World) : Calls Tryd.prog 17 #[.string ⟨#[48]⟩, .int .i64 c] w fun e w' => ∃ r : ByteArray, e = .returned (.string r) ∧ r.data.toList = List.replicate c 48 ∧ Gw w w' := by
  exact (Any.strings_Repeat Tryd.dmRep Tryd.dmExtra ⟨#[48]⟩ c w (by omega) (by show 1 * c ≤ _; omega)).mono fun e w' ⟨he, hw⟩ => ⟨_, he, rep48 c, hw⟩
theorem d_trim (s : ByteArray) (w : World) : Calls Tryd.prog 29 #[.string s, .string ⟨#[48, 49, 50, 51, 52, 53, 54, 55, 56, 57]⟩] w fun e w' => ∃ r : ByteArray, e = .returned (.string r) ∧ r.data.toList = Lib.trimLeftS s.data.toList [48, 49, 50, 51, 52, 53, 54, 55, 56, 57] ∧ Gw w w' :=
  (Any.strings_TrimLeft_laid Tryd.dmTrim (by kernel_rfl) s ⟨#[48, 49, 50, 51, 52, 53, 54, 55, 56, 57]⟩ w (by decide) (Go.Proofs.ascii_of_all (by decide))).mono fun e w' ⟨he, hw⟩ => ⟨_, he, rfl, hw⟩
set_option maxHeartbeats 1000000 in
theorem strings_CutPrefix (s p : ByteArray) (w : World) :
    Calls Tryd.prog 15 #[.string s, .string p] w fun e w' => e = .returned (.tuple #[.string ⟨(Lib.trimPrefix s.data.toList p.data.toList).toArray⟩, .bool (Lib.hasPrefix s.data.toList p.data.toList)]) ∧ w' = w := by
  go_enter Tryd.func15, Tryd.ntmps15
  go_wp2
  · have h2 : (!((s.extract 0 p.size).toList == p.toList)) = true := by assumption
    have h3 : (decide (p.size ≤ s.size) && ((s.extract 0 p.size).toList == p.toList)) = false := by
      have : ((s.extract 0 p.size).toList == p.toList) = false := by simpa using h2
      rw [this]
      simp
    go_ret2
    refine ⟨?_, rfl⟩
    rw [Lib.trimPrefix_miss s p h3, ← Lib.hasPrefix_raw, h3]
    rfl
  · have h1 : p.size ≤ s.size := by assumption
    have h2 : (!((s.extract 0 p.size).toList == p.toList)) = false := by assumption
    have h2' : ((s.extract 0 p.size).toList == p.toList) = true := by simpa using h2
    go_ret2
    refine ⟨?_, rfl⟩
    rw [Lib.trimPrefix_hit s p h1 h2', ← Lib.hasPrefix_raw, h2', decide_eq_true h1]
    rfl
  · have h1 : ¬ p.size ≤ s.size := by assumption
    have h3 : (decide (p.size ≤ s.size) && ((s.extract 0 p.size).toList == p.toList)) = false := by simp [h1]
    go_ret2
    refine ⟨?_, rfl⟩
    rw [Lib.trimPrefix_miss s p h3, ← Lib.hasPrefix_raw, h3]
    rfl
theorem d_cut (s : ByteArray) (w : World) : Calls Tryd.prog 15 #[.string s, .string ⟨#[45]⟩] w fun e w' => ∃ r : ByteArray, e = .returned (.tuple #[.string r, .bool (minusOf s.data.toList)]) ∧ r.data.toList = restOf s.data.toList ∧ w = w' :=
  (strings_CutPrefix s ⟨#[45]⟩ w).mono fun e w' ⟨he, hw⟩ => ⟨⟨(Lib.trimPrefix s.data.toList [45]).toArray⟩, by rw [he, ← has_minus], trim_minus _, hw.symm⟩
theorem d_may (p : Int) (w : World) : Calls Tryd.prog 13 #[.int .i64 p] w fun e w' => e = .returned (.bool (decide (0 ≤ p ∧ p ≤ 9))) ∧ w = w' := by
  by_cases h0 : 0 ≤ p
  · have t0 : decide (0 ≤ p) = true := by simpa using h0
    obtain ⟨b, hb⟩ : ∃ b, decide (p ≤ 9) = b := ⟨_, rfl⟩
    rw [show decide (0 ≤ p ∧ p ≤ 9) = b by rw [← hb]; exact decide_eq_decide.2 (by omega)]
    clear h0
    go_enter Tryd.func13, Tryd.ntmps13
    go_wp2_with fail
    go_returns
    exact ⟨rfl, rfl⟩
  · have t0 : decide (0 ≤ p) = false := by simpa using h0
    rw [show decide (0 ≤ p ∧ p ≤ 9) = false from decide_eq_false (by omega)]
    clear h0
    go_enter Tryd.func13, Tryd.ntmps13
    go_wp2_with fail
    go_returns
    exact ⟨rfl, rfl⟩
theorem size_list (s : ByteArray) : s.size = s.data.toList.length := Lib.size_eq s
theorem d_run (s : ByteArray) (hs : s.size ≤ 4294967296) (w : World) : Calls Tryd.prog 16 #[.string s] w fun e w' => e = .returned (.int .i64 (dg s.data.toList : Nat)) ∧ Gw w w' := by
  have H := Lib.hid (d_trim s w)
  obtain ⟨n, hn⟩ : ∃ n, n = dg s.data.toList := ⟨_, rfl⟩
  rw [← hn]
  go_enter Tryd.func16, Tryd.ntmps16
  go_wp2_with fail
  refine H.out.mono ?_
  rintro e w1 ⟨r, rfl, hr, o1⟩
  have h1 := dg_drop s.data.toList
  rw [← hr, ← size_list, ← size_list] at h1
  have h2 := dg_le s.data.toList
  rw [← size_list] at h2
  rw [← hn] at h1 h2
  have ww : IntKind.i64.wrap ((s.size : Int) - (r.size : Int)) = (n : Int) := by rw [IntKind.wrap_i64]; omega
  clear hr h1 h2 hn hs
  go_wp2_with fail
  go_returns
  exact ⟨rfl, o1⟩
theorem d_wrong (a : Int) (w : World) : Calls Tryd.prog 14 #[.int .i64 a] w fun e w' => e = .returned (.tuple #[.int .i64 0, .int .i64 20, .int .i64 a]) ∧ w = w' := by
  go_enter Tryd.func14, Tryd.ntmps14
  go_wp2_with fail
  go_returns
  exact ⟨rfl, rfl⟩
end Go.Proofs.YtkpndnjnckaanaaDoor
