/- Plan: what a plan's trades are worth (the code's Worth). Conditions: the hits are read; at most 2^40 of them. -/
import Derived.Test.YtilngakgofjmpaaPl6
import Derived.Test.YtilngakgofjmpaaJ9
import Derived.Test.YtilngakgofjmpaaJ6
import Derived.Laws.AppendOwn
namespace Go.Proofs.Ytilngakgofjmpaa
set_option linter.unusedVariables false
set_option linter.unusedSimpArgs false
open Go.RowKit

def okH (h : HitR) : Bool := h.o || decide ((1 ≤ h.p ∧ h.p ≤ 1000000000) ∧ 1 ≤ h.q ∧ h.q ≤ 1000000000)
def worths (hs : List HitR) : List Int := (hs.filter fun h => !h.o).map fun h => h.p * h.q
def worthV (hs : List HitR) : Value := if hs.all okH = true then .tuple #[.int .i64 (if sumI (worths hs) ≤ 9223372036854775807 then sumI (worths hs) else 0), .bool (decide (sumI (worths hs) ≤ 9223372036854775807))] else .tuple #[.int .i64 0, .bool false]
theorem worths_snoc (hs : List HitR) (h : HitR) : worths (hs ++ [h]) = if h.o then worths hs else worths hs ++ [h.p * h.q] := by
  unfold worths
  rw [List.filter_append, List.map_append]
  cases e : h.o <;> simp [e]
theorem worths_len (hs : List HitR) : (worths hs).length ≤ hs.length := by unfold worths; rw [List.length_map]; exact List.length_filter_le _ _
theorem worths_bd {hs : List HitR} (h : hs.all okH = true) : ∀ n ∈ worths hs, 0 ≤ n ∧ n ≤ 1000000000000000000 := fun n hn => by
  unfold worths at hn
  obtain ⟨x, hx, rfl⟩ := List.mem_map.1 hn
  obtain ⟨hx, ho⟩ := List.mem_filter.1 hx
  have := List.all_eq_true.1 h x hx
  unfold okH at this
  have ho : x.o = false := by simpa using ho
  rw [ho] at this
  have : (1 ≤ x.p ∧ x.p ≤ 1000000000) ∧ 1 ≤ x.q ∧ x.q ≤ 1000000000 := by simpa using this
  obtain ⟨a, ha⟩ : ∃ a : Nat, x.p = a := ⟨x.p.toNat, by omega⟩
  obtain ⟨b, hb⟩ : ∃ b : Nat, x.q = b := ⟨x.q.toNat, by omega⟩
  have hm : a * b ≤ 1000000000 * 1000000000 := Nat.mul_le_mul (by omega) (by omega)
  rw [ha, hb, ← Int.natCast_mul]
  omega
def intC (ns : List Int) : List Value := ns.map fun n => .int .i64 n
theorem Try.infoI64 : (Try.prog.info? 2).map (fun i => (i.zero, i.size, i.bytes)) = some (some (.int .i64 0), 1, 8) := by kernel_rfl
theorem IntAt.of_own {w : World} {base : Nat} {e : TypeId} {v : Value} {l : List Int} (h : w.ownsRow base e 1 v l.length (intC l)) : ∃ va cap, v = .slice va l.length cap ∧ l.length ≤ cap ∧ IntAt w va l := by
  obtain ⟨va, cap, hv, hc⟩ := own_slice h
  refine ⟨va, cap, hv, hc, fun k n hk => ?_⟩
  have hpos : 0 < l.length := by have := (List.getElem?_eq_some_iff.1 hk).1; omega
  obtain ⟨g, cap', hv', _, _, hlt, hcell⟩ := own_cell h hpos
  rw [hv] at hv'
  injection hv' with e1 e2 e3
  exact ⟨g, e1, hlt, (hcell k _ (by unfold intC; rw [List.getElem?_map, hk]; rfl)).cell⟩

theorem Only.of_grown'' {w w' : World} {row : Option Nat} (hg : w.grownBy w' row) : Only (fun g => some g = row) w w' :=
  ⟨hg.os, hg.tape, hg.output, hg.size, fun i hi hs => hg.block i hi hs⟩
set_option maxRecDepth 100000 in
set_option maxHeartbeats 4000000 in
theorem k_worth (w : World) (va : Option Addr) (cap : Nat) (hs : List HitR) (hl : hs.length ≤ 1099511627776) (hat : HitAt w va hs) (tr re go : Int) :
    Calls Try.prog 49 #[.agg #[.slice va hs.length cap, .int .i64 tr, .int .i64 re, .int .i64 go]] w fun e w' => e = .returned (worthV hs) ∧ Only (fun _ => False) w w' := by
  obtain ⟨i3, hi3, hz3, hs3, hb3⟩ := info_parts Try.infoI64
  obtain ⟨m, hm⟩ : ∃ m, m = hs.length := ⟨_, rfl⟩
  rw [← hm] at hl ⊢
  obtain ⟨V, hV⟩ : ∃ V, worthV hs = V := ⟨_, rfl⟩
  rw [hV]
  have HV := Lib.hid hV
  have HM := Lib.hid hm
  have HA := Lib.hid hat
  clear hV hm hat
  go_enter Try.func49, Try.ntmps49
  go_wp2_with fail
  go_loopw [4, 12] (fun s4 s12 wr => ∃ k : Nat, k ≤ m ∧ s12 = .int .i64 k ∧ (hs.take k).all okH = true ∧ wr.ownsRow w.heap.size 2 1 s4 (worths (hs.take k)).length (intC (worths (hs.take k))) ∧ Only (fun _ => False) w wr) (fun _ s12 _ => m - (intOf s12).toNat)
  case atStart => exact ⟨0, by omega, rfl, rfl, World.ownsRow_nil _ _ _ _, (Only.refl _ _).alloc _⟩
  case round =>
    obtain ⟨k, hk, rfl, hall, hrow, ho⟩ := hrel
    have HO := Lib.hid ho
    have HR := Lib.hid hrow
    have HALL := Lib.hid hall
    by_cases hlt : k < m
    · have t1 : decide (k < m) = true := by simpa using hlt
      have i1 : (0 : Int) ≤ (k : Int) ∧ (k : Int) < (m : Int) := by omega
      have w1' : IntKind.i64.wrap ((k : Int) + 1) = (k : Int) + 1 := by rw [IntKind.wrap_i64]; omega
      obtain ⟨x, hx⟩ : ∃ x, hs[k]? = some x := ⟨_, List.getElem?_eq_getElem (by rw [← HM.out]; exact hlt)⟩
      obtain ⟨g, off, rfl, hg, c0, c1, c2, c3⟩ := (HA.out.only ho (fun _ _ => id)) k x hx
      have htk : hs.take (k + 1) = hs.take k ++ [x] := by rw [List.take_add_one, hx]; rfl
      have hbad : okH x = false → V = .tuple #[.int .i64 0, .bool false] := fun h => by
        rw [← HV.out]
        unfold worthV
        rw [if_neg]
        intro hh
        have := List.all_eq_true.1 hh x (List.mem_of_getElem? hx)
        rw [h] at this; cases this
      have hnl : (worths (hs.take k)).length ≤ m := by
        have := worths_len (hs.take k)
        rw [List.length_take] at this
        omega
      obtain ⟨xi, xp, xq, xo⟩ := x
      simp only at c0 c1 c2 c3
      cases xo with
      | true =>
        have HN := Lib.hid (show (hs.take (k + 1)).all okH = true ∧ worths (hs.take (k + 1)) = worths (hs.take k) from ⟨by rw [htk, List.all_append, HALL.out]; rfl, by rw [htk, worths_snoc]; rfl⟩)
        clear hx htk hbad hall hrow ho
        go_wp2_with fail
        go_roundw
        case rel => exact ⟨k + 1, by omega, by go_num, HN.out.1, by rw [HN.out.2]; exact HR.out.alloc _, HO.out.alloc _⟩
        case measure => simp [intOf]; omega
      | false =>
        by_cases b1 : xp < 1
        · have hv := hbad (by unfold okH; simp; omega)
          subst hv
          have u1 : decide (xp < 1) = true := by simpa using b1
          clear hx htk hbad hall hrow ho
          go_wp2_with fail
          go_returns
          exact ⟨rfl, HO.out.alloc _⟩
        have u1 : decide (xp < 1) = false := by simpa using b1
        by_cases b2 : 1000000000 < xp
        · have hv := hbad (by unfold okH; simp; omega)
          subst hv
          have u2 : decide (1000000000 < xp) = true := by simpa using b2
          clear hx htk hbad hall hrow ho
          go_wp2_with fail
          go_returns
          exact ⟨rfl, HO.out.alloc _⟩
        have u2 : decide (1000000000 < xp) = false := by simpa using b2
        by_cases b3 : xq < 1
        · have hv := hbad (by unfold okH; simp; omega)
          subst hv
          have u3 : decide (xq < 1) = true := by simpa using b3
          clear hx htk hbad hall hrow ho
          go_wp2_with fail
          go_returns
          exact ⟨rfl, HO.out.alloc _⟩
        have u3 : decide (xq < 1) = false := by simpa using b3
        by_cases b4 : 1000000000 < xq
        · have hv := hbad (by unfold okH; simp; omega)
          subst hv
          have u4 : decide (1000000000 < xq) = true := by simpa using b4
          clear hx htk hbad hall hrow ho
          go_wp2_with fail
          go_returns
          exact ⟨rfl, HO.out.alloc _⟩
        have u4 : decide (1000000000 < xq) = false := by simpa using b4
        have HN := Lib.hid (show (hs.take (k + 1)).all okH = true ∧ worths (hs.take (k + 1)) = worths (hs.take k) ++ [xp * xq] from ⟨by rw [htk, List.all_append, HALL.out]; simp [okH]; omega, by rw [htk, worths_snoc]; rfl⟩)
        have HM1 := fun W => Lib.hid (f_mul xp xq (by omega) (by omega) W)
        obtain ⟨sa, sc, hsv, hsc⟩ := own_slice hrow
        subst hsv
        have HOP := Lib.hid (show ∀ u ∈ [Value.int .i64 (xp * xq)], u.oneCell' = true from fun u hu => by
          rcases List.mem_cons.1 hu with rfl | hu
          · rfl
          · cases hu)
        have HBS := Lib.hid (ho.size)
        have HNW := Lib.hid (show ∀ j u, [Value.int .i64 (xp * xq)][j]? = some u → ((wr.alloc (.cells #[.int .i64 xi, .int .i64 xp, .int .i64 xq, .bool false] 117)).alloc (.cells #[.int .i64 (xp * xq)] 2)).cell? ((⟨wr.heap.size + 1, 0, none⟩ : Addr).add j) = some u from by
          have := cells_newO (wr.alloc (.cells #[.int .i64 xi, .int .i64 xp, .int .i64 xq, .bool false] 117)) [.int .i64 (xp * xq)] 2
          rw [World.size_alloc] at this
          exact this)
        clear hx htk hbad hall hrow ho b1 b2 b3 b4 HV HALL
        go_wp2_with (first | (go_at_call 114; refine (HM1 _).out.mono ?_; rintro e w5 ⟨rfl, rfl⟩) | (at_builtin; with_reducible refine wpList_append_own_at _ rfl (.tmp 40) (.tmp 42) 22 rfl w.heap.size 2 i3 (.int .i64 0) 1 8 Try.underlying22 hi3 hz3 hs3 hb3 rfl (by decide) (.slice sa (worths (hs.take k)).length sc) (worths (hs.take k)).length _ rfl ((HR.out.alloc _).alloc _) ⟨wr.heap.size + 1, 0, none⟩ 1 1 [.int .i64 (xp * xq)] rfl rfl HNW.out HOP.out (by unfold maxLen; omega) (by omega) (by have := HBS.out; simp; omega) ?_; intro l2 w6 hown2 hgr2 hnil2 hat2; have H4 := Lib.hid hown2; have H5 := Lib.hid hgr2; clear hnil2 hown2 hgr2 hat2))
        go_roundw
        case rel =>
          refine ⟨k + 1, by omega, by go_num, HN.out.1, ?_, ?_⟩
          · rw [HN.out.2, List.length_append]
            have := H4.out
            unfold intC at this ⊢
            rw [List.map_append]
            exact this
          · exact ((HO.out.alloc _).alloc _).trans' (Only.of_grown'' H5.out) (fun i h1 h2 => by have := HR.out.lt i h2.symm; omega)
        case measure => simp [intOf]; omega
    · have t1 : decide (k < m) = false := by simpa using hlt
      obtain rfl : k = m := by omega
      rw [List.take_of_length_le (by rw [← HM.out]; exact Nat.le_refl _)] at hall hrow
      have HS1 := Lib.hid (worths_bd hall)
      have HS2 := worths_len hs
      have hv : V = .tuple #[.int .i64 (if sumI (worths hs) ≤ 9223372036854775807 then sumI (worths hs) else 0), .bool (decide (sumI (worths hs) ≤ 9223372036854775807))] := by rw [← HV.out]; unfold worthV; rw [if_pos hall]
      obtain ⟨sa, sc, hsv, hsc, hia⟩ := IntAt.of_own hrow
      subst hsv
      have HF := Lib.hid (f_sum wr sa sc (worths hs) (by rw [← HM.out] at HS2; omega) HS1.out hia)
      obtain ⟨z, hz⟩ : ∃ z : Int, (if sumI (worths hs) ≤ 9223372036854775807 then sumI (worths hs) else 0) = z := ⟨_, rfl⟩
      obtain ⟨d, hd⟩ : ∃ d : Bool, decide (sumI (worths hs) ≤ 9223372036854775807) = d := ⟨_, rfl⟩
      rw [hz, hd] at hv HF
      subst hv
      clear hz hd HS2 hall hrow ho hlt hk HR HALL hia
      go_wp2_with fail
      refine HF.out.mono ?_
      rintro e w5 ⟨rfl, o5⟩
      go_wp2_with fail
      go_returns
      exact ⟨rfl, HO.out.trans o5⟩
end Go.Proofs.Ytilngakgofjmpaa
