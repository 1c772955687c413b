/- Plan: what a plan's trades are worth (the document's Worth). Conditions: the hits are read; at most 2^20 of them. -/
import Derived.Test.YtilngakgofjmpaaPlW
import Derived.Test.YtilngakgofjmpaaJ9
namespace Go.Proofs.Ytilngakgofjmpaa
set_option linter.unusedVariables false
set_option linter.unusedSimpArgs false
open Go.RowKit

set_option maxRecDepth 100000 in
set_option maxHeartbeats 4000000 in
theorem r_worth (w : World) (va : Option Addr) (cap : Nat) (hs : List HitR) (hl : hs.length ≤ 1048576) (hat : HitAt w va hs) (tr re go : Int) :
    Calls Try.prog 51 #[.agg #[.slice va hs.length cap, .int .i64 tr, .int .i64 re, .int .i64 go]] w fun e w' => e = .returned (worthV hs) ∧ Only (fun _ => False) w w' := by
  obtain ⟨i3, hi3, hz3, hs3, hb3⟩ := info_parts Try.infoI64
  obtain ⟨m, hm⟩ : ∃ m, m = hs.length := ⟨_, rfl⟩
  rw [← hm] at hl ⊢
  obtain ⟨V, hV⟩ : ∃ V, worthV hs = V := ⟨_, rfl⟩
  rw [hV]
  have HV := Lib.hid hV
  have HM := Lib.hid hm
  have HA := Lib.hid hat
  clear hV hm hat
  go_enter Try.func51, Try.ntmps51
  go_wp2_with fail
  go_loopw [4, 5] (fun s4 s5 wr => ∃ k : Nat, k ≤ m ∧ s5 = .int .i64 k ∧ (hs.take k).all okH = true ∧ wr.ownsRow (w.heap.size + 1) 2 1 s4 (worths (hs.take k)).length (intC (worths (hs.take k))) ∧ Only (fun _ => False) (w.alloc (.cells #[.slice va m cap, .int .i64 tr, .int .i64 re, .int .i64 go] 104)) wr) (fun _ s5 _ => m - (intOf s5).toNat)
  case atStart => exact ⟨0, by omega, rfl, rfl, World.ownsRow_nil _ _ _ _, Only.refl _ _⟩
  case round =>
    obtain ⟨k, hk, rfl, hall, hrow, ho⟩ := hrel
    have HO0 := Lib.hid ho
    have cb : wr.cell? ⟨w.heap.size, 0, none⟩ = some (.slice va m cap) := ho.cell (cells_newO w [.slice va m cap, .int .i64 tr, .int .i64 re, .int .i64 go] 104 0 _ rfl) id
    have hbl := cell_lt cb
    have ho : Only (fun _ => False) w wr := ((Only.refl _ _).alloc _).trans ho
    have HO := Lib.hid ho
    have HR := Lib.hid hrow
    have HALL := Lib.hid hall
    by_cases hlt : k < m
    · have t1 : decide (k < m) = true := by simpa using hlt
      have i1 : (0 : Int) ≤ (k : Int) ∧ (k : Int) < (m : Int) := by omega
      have w1' : IntKind.i64.wrap ((k : Int) + 1) = (k : Int) + 1 := by rw [IntKind.wrap_i64]; omega
      obtain ⟨x, hx⟩ : ∃ x, hs[k]? = some x := ⟨_, List.getElem?_eq_getElem (by rw [← HM.out]; exact hlt)⟩
      obtain ⟨g, off, rfl, hg, c0, c1, c2, c3⟩ := (HA.out.only ho (fun _ _ => id)) k x hx
      have htk : hs.take (k + 1) = hs.take k ++ [x] := by rw [List.take_add_one, hx]; rfl
      have hbad : okH x = false → V = .tuple #[.int .i64 0, .bool false] := fun h => by
        rw [← HV.out]
        unfold worthV
        rw [if_neg]
        intro hh
        have := List.all_eq_true.1 hh x (List.mem_of_getElem? hx)
        rw [h] at this; cases this
      have hnl : (worths (hs.take k)).length ≤ m := by
        have := worths_len (hs.take k)
        rw [List.length_take] at this
        omega
      obtain ⟨xi, xp, xq, xo⟩ := x
      simp only at c0 c1 c2 c3
      cases xo with
      | true =>
        have HN := Lib.hid (show (hs.take (k + 1)).all okH = true ∧ worths (hs.take (k + 1)) = worths (hs.take k) from ⟨by rw [htk, List.all_append, HALL.out]; rfl, by rw [htk, worths_snoc]; rfl⟩)
        clear hx htk hbad hall hrow ho
        go_wp2_with fail
        go_roundw
        case rel => exact ⟨k + 1, by omega, by go_num, HN.out.1, by rw [HN.out.2]; exact HR.out.alloc _, HO0.out.alloc _⟩
        case measure => simp [intOf]; omega
      | false =>
        by_cases b1 : xp < 1
        · have hv := hbad (by unfold okH; simp; omega)
          subst hv
          have u1 : decide (xp < 1) = true := by simpa using b1
          clear hx htk hbad hall hrow ho
          go_wp2_with fail
          go_returns
          exact ⟨rfl, HO.out.alloc _⟩
        have u1 : decide (xp < 1) = false := by simpa using b1
        by_cases b2 : 1000000000 < xp
        · have hv := hbad (by unfold okH; simp; omega)
          subst hv
          have u2 : decide (1000000000 < xp) = true := by simpa using b2
          clear hx htk hbad hall hrow ho
          go_wp2_with fail
          go_returns
          exact ⟨rfl, HO.out.alloc _⟩
        have u2 : decide (1000000000 < xp) = false := by simpa using b2
        by_cases b3 : xq < 1
        · have hv := hbad (by unfold okH; simp; omega)
          subst hv
          have u3 : decide (xq < 1) = true := by simpa using b3
          clear hx htk hbad hall hrow ho
          go_wp2_with fail
          go_returns
          exact ⟨rfl, HO.out.alloc _⟩
        have u3 : decide (xq < 1) = false := by simpa using b3
        by_cases b4 : 1000000000 < xq
        · have hv := hbad (by unfold okH; simp; omega)
          subst hv
          have u4 : decide (1000000000 < xq) = true := by simpa using b4
          clear hx htk hbad hall hrow ho
          go_wp2_with fail
          go_returns
          exact ⟨rfl, HO.out.alloc _⟩
        have u4 : decide (1000000000 < xq) = false := by simpa using b4
        have HN := Lib.hid (show (hs.take (k + 1)).all okH = true ∧ worths (hs.take (k + 1)) = worths (hs.take k) ++ [xp * xq] from ⟨by rw [htk, List.all_append, HALL.out]; simp [okH]; omega, by rw [htk, worths_snoc]; rfl⟩)
        have q1 : IntKind.i64.wrap (xp * xq) = xp * xq := by
          obtain ⟨a, rfl⟩ : ∃ a : Nat, xp = a := ⟨xp.toNat, by omega⟩
          obtain ⟨b, rfl⟩ : ∃ b : Nat, xq = b := ⟨xq.toNat, by omega⟩
          have hm : a * b ≤ 1000000000 * 1000000000 := Nat.mul_le_mul (by omega) (by omega)
          rw [← Int.natCast_mul, IntKind.wrap_i64]; omega
        obtain ⟨sa, sc, hsv, hsc⟩ := own_slice hrow
        subst hsv
        have HOP := Lib.hid (show ∀ u ∈ [Value.int .i64 (xp * xq)], u.oneCell' = true from fun u hu => by
          rcases List.mem_cons.1 hu with rfl | hu
          · rfl
          · cases hu)
        have HBS := Lib.hid (show w.heap.size + 1 ≤ wr.heap.size from by have := HO0.out.size; rw [World.size_alloc] at this; exact this)
        have HNW := Lib.hid (show ∀ j u, [Value.int .i64 (xp * xq)][j]? = some u → ((wr.alloc (.cells #[.int .i64 xi, .int .i64 xp, .int .i64 xq, .bool false] 117)).alloc (.cells #[.int .i64 (xp * xq)] 2)).cell? ((⟨wr.heap.size + 1, 0, none⟩ : Addr).add j) = some u from by
          have := cells_newO (wr.alloc (.cells #[.int .i64 xi, .int .i64 xp, .int .i64 xq, .bool false] 117)) [.int .i64 (xp * xq)] 2
          rw [World.size_alloc] at this
          exact this)
        clear hx htk hbad hall hrow ho b1 b2 b3 b4 HV HALL
        go_wp2_with (first | (at_builtin; with_reducible refine wpList_append_own_at _ rfl (.tmp 39) (.tmp 45) 22 rfl (w.heap.size + 1) 2 i3 (.int .i64 0) 1 8 Try.underlying22 hi3 hz3 hs3 hb3 rfl (by decide) (.slice sa (worths (hs.take k)).length sc) (worths (hs.take k)).length _ rfl ((HR.out.alloc _).alloc _) ⟨wr.heap.size + 1, 0, none⟩ 1 1 [.int .i64 (xp * xq)] rfl rfl HNW.out HOP.out (by unfold maxLen; omega) (by omega) (by have := HBS.out; simp; omega) ?_; intro l2 w6 hown2 hgr2 hnil2 hat2; have H4 := Lib.hid hown2; have H5 := Lib.hid hgr2; clear hnil2 hown2 hgr2 hat2))
        go_roundw
        case rel =>
          refine ⟨k + 1, by omega, by go_num, HN.out.1, ?_, ?_⟩
          · rw [HN.out.2, List.length_append]
            have := H4.out
            unfold intC at this ⊢
            rw [List.map_append]
            exact this
          · exact ((HO0.out.alloc _).alloc _).trans' (Only.of_grown'' H5.out) (fun i h1 h2 => by have := HR.out.lt i h2.symm; rw [World.size_alloc] at h1; omega)
        case measure => simp [intOf]; omega
    · have t1 : decide (k < m) = false := by simpa using hlt
      obtain rfl : k = m := by omega
      rw [List.take_of_length_le (by rw [← HM.out]; exact Nat.le_refl _)] at hall hrow
      have HS1 := Lib.hid (worths_bd hall)
      have HS2 := worths_len hs
      have hv : V = .tuple #[.int .i64 (if sumI (worths hs) ≤ 9223372036854775807 then sumI (worths hs) else 0), .bool (decide (sumI (worths hs) ≤ 9223372036854775807))] := by rw [← HV.out]; unfold worthV; rw [if_pos hall]
      obtain ⟨sa, sc, hsv, hsc, hia⟩ := IntAt.of_own hrow
      subst hsv
      have HF := Lib.hid (r_sum wr sa sc (worths hs) (by rw [← HM.out] at HS2; omega) HS1.out hia)
      obtain ⟨z, hz⟩ : ∃ z : Int, (if sumI (worths hs) ≤ 9223372036854775807 then sumI (worths hs) else 0) = z := ⟨_, rfl⟩
      obtain ⟨d, hd⟩ : ∃ d : Bool, decide (sumI (worths hs) ≤ 9223372036854775807) = d := ⟨_, rfl⟩
      rw [hz, hd] at hv HF
      subst hv
      clear hz hd HS2 hall hrow ho hlt hk HR HALL hia
      go_wp2_with fail
      refine HF.out.mono ?_
      rintro e w5 ⟨rfl, o5⟩
      go_wp2_with fail
      go_returns
      exact ⟨rfl, HO.out.trans o5⟩
end Go.Proofs.Ytilngakgofjmpaa
