/- SlotsRow: the walk. No condition. -/
import Derived.Test.YtiiflgihjnlmcaaSlotsX
import Derived.Deep.CutBlock
import Derived.Deep.CutRange
import Derived.Deep.DeepCutAuto
namespace Go.Proofs.Ytiiflgihjnlmcaa
set_option linter.unusedVariables false
set_option linter.unusedSimpArgs false
open Go.RowKit

theorem Try.infoBool : (Try.prog.info? 4).map (fun i => (i.zero, i.size, i.bytes)) = some (some (.bool false), 1, 1) := by kernel_rfl
def zBool : Array Value := #[.bool false]
theorem gone_new (w : World) (t : TypeId) (n j : Nat) (hj : j < n) : Cell (w.alloc (.cells (madeCells zBool n) t)) w.heap.size j (.bool false) := by
  have h := made_at (z := zBool) (s := 1) (i := j) (j := 0) rfl hj rfl
  rw [Nat.mul_one, Nat.mul_one, Nat.add_zero, Array.getElem?_toList] at h
  exact Cell.new h

theorem cells_upd {w : World} {G k : Nat} {g : Nat → Bool} (h : ∀ j, j < k → Cell w G j (.bool (g j))) (m : Nat) (j : Nat) (hj : j < k) : Cell (w.setCell ⟨G, m, none⟩ (.bool true)) G j (.bool (upd g m true j)) := by
  by_cases e : j = m
  · subst e; rw [upd_same]; exact (h j hj).set _
  · rw [upd_other e]; exact (h j hj).far (off_ne (Ne.symm e)) _

set_option maxHeartbeats 8000000 in
set_option maxRecDepth 100000 in
theorem slotsRow_yes (w : World) (a : Option Addr) (len cap : Nat) (xs : Nat → Int) (B off : Nat) (ha : 0 < len → a = some ⟨B, off, none⟩ ∧ B < w.heap.size) (hx : ∀ k, k < len → w.cell? ⟨B, off + k, none⟩ = some (.int .i64 (xs k)) ∧ (Lit.int .i64 (xs k)).wf = true)
    (a2 : Option Addr) (len2 cap2 : Nat) (ys : Nat → Int) (B2 off2 : Nat) (ha2 : 0 < len2 → a2 = some ⟨B2, off2, none⟩ ∧ B2 < w.heap.size) (hy : ∀ k, k < len2 → w.cell? ⟨B2, off2 + k, none⟩ = some (.int .i64 (ys k)) ∧ (Lit.int .i64 (ys k)).wf = true)
    (hlen : len ≤ 17592186043904) (hlen2 : len2 ≤ 17592186043904) :
    Calls Try.prog 8 #[.slice a len cap, .slice a2 len2 cap2] w fun e w' => e = .returned (.bool true) ∧ Only (fun _ => False) w w' := by
  obtain ⟨n, hn⟩ : ∃ n : Nat, n = Nat.min len 300 := ⟨_, rfl⟩
  have hn1 : n ≤ len := by rw [hn]; exact Nat.min_le_left _ _
  have hn2 : n ≤ 300 := by rw [hn]; exact Nat.min_le_right _ _
  have hn3 : min (len : Int) 300 = (n : Int) := by rw [hn]; show min (len : Int) 300 = ((min len 300 : Nat) : Int); omega
  have HN := Lib.hid hn3
  clear hn hn3
  have S0 := fun W : World => Lib.hid (show Calls Try.prog 39 #[.int .i64 1, .int .i64 n] W (HNew W 1 n) from h_new W 1 n (by omega) (by omega) (by omega))
  obtain ⟨i3, hi3, hz3, hs3, hb3⟩ := info_parts Try.infoBool
  have m3 := fun W => run_makeN (P := Try.prog) 62 4 i3 _ Try.underlying62 hi3 hz3 hs3 n (by rw [hb3]; omega) (by omega) W
  change ∀ W : World, _ = Result.ok _ (W.alloc (.cells (madeCells zBool (n * 1)) _)) at m3
  clear hi3 hz3 hs3 hb3
  go_enter Try.func8, Try.ntmps8
  go_upto_region 2 with (refine (works_walk _).mono ?_; rintro e w1 ⟨rfl, o1⟩)
  go_cut [6] (fun s6 wc => s6 = .int .i64 n ∧ Only (fun _ => False) w wc)
  case first =>
    go_wp2_with fail
    all_goals
      go_meet
      have hN := HN.out
      refine ⟨?_, by repeat' (first | (with_reducible exact Only.refl _ _) | (with_reducible assumption) | (refine Only.of_none ?_; with_reducible assumption) | (with_reducible refine Only.drewN ?_ _) | (with_reducible refine Only.drew ?_) | (with_reducible refine Only.alloc ?_ _) | (with_reducible refine Only.setCell ?_ ?_ _) | (with_reducible refine Only.then0 ?_ (by with_reducible assumption)) | (with_reducible refine Only.thenN ?_ (by with_reducible assumption) ?_) | (with_reducible refine Only.trans ?_ (by with_reducible assumption)) | (refine .inl ?_; first | rfl | (simp; done) | (simp [Ar.blk]; done)) | (refine .inr ?_; first | omega | (simp; done) | (simp; omega) | exact Only.size (by with_reducible assumption) | (refine Nat.le_trans (Only.size (by with_reducible assumption)) ?_; simp; done)))⟩
      first | rfl | (congr 1; omega)
  case rest =>
    obtain ⟨rfl, o1⟩ := hcut
    go_wp2_with fail
    refine (S0 _).out.mono ?_
    rintro e w2 ⟨b, gl, gr, gf, rfl, L2, o2, g1, g2, g3, g4⟩
    have hz1 := o1.size
    have k1 : w.heap.size ≤ b := by omega
    have k2 : w.heap.size ≤ gl := by omega
    have k3 : w.heap.size ≤ gr := by omega
    have k4 : w.heap.size ≤ gf := by omega
    have hblk := L2.blk
    have p2 : Only (fun _ => False) w w2 := o1.then0 o2
    have hG := p2.size
    have L3 := Lib.hid (fun o => L2.keep ((Only.refl (fun _ => False) w2).alloc o) (fun _ _ => id))
    have CG := Lib.hid (fun t j (hj : j < n) => gone_new w2 t n j hj)
    clear S0 L2 g1 g2 g3 g4 hz1 o1 o2
    go_wp2
    have hGn : ∀ i, Blk4 b gl gr gf i → i ≠ w2.heap.size := fun i hi e => by have := hblk i hi; omega
    go_loopw [10] (fun i wr => ∃ (k : Nat) (R : Nat → List Nat) (V : Nat → Int), k ≤ n ∧ i = .int .i64 k ∧ Lay wr b gl gr gf 1 n R V ∧ R 0 = rowF (fun _ => false) 0 k ∧ (∀ j, j < k → V j = xs j) ∧ Only (fun _ => False) w wr ∧ w2.heap.size < wr.heap.size ∧ ∀ j, j < n → Cell wr w2.heap.size j (.bool false))
      (fun i _ => n - (intOf i).toNat)
    case atStart => exact ⟨0, _, _, by omega, rfl, L3.out _, rfl, fun j hj => by omega, by repeat' (first | (with_reducible exact Only.refl _ _) | (with_reducible assumption) | (refine Only.of_none ?_; with_reducible assumption) | (with_reducible refine Only.drewN ?_ _) | (with_reducible refine Only.drew ?_) | (with_reducible refine Only.alloc ?_ _) | (with_reducible refine Only.setCell ?_ ?_ _) | (with_reducible refine Only.then0 ?_ (by with_reducible assumption)) | (with_reducible refine Only.thenN ?_ (by with_reducible assumption) ?_) | (with_reducible refine Only.trans ?_ (by with_reducible assumption)) | (refine .inl ?_; first | rfl | (simp; done) | (simp [Ar.blk]; done)) | (refine .inr ?_; first | omega | (simp; done) | (simp; omega) | exact Only.size (by with_reducible assumption) | (refine Nat.le_trans (Only.size (by with_reducible assumption)) ?_; simp; done))), by simp, fun j hj => CG.out _ j hj⟩
    case round =>
      obtain ⟨k, R, V, hk, rfl, hL, hR0, hV, ho, hw2, hC⟩ := hrel
      by_cases hlt : k < n
      · obtain ⟨ha1, hB⟩ := ha (by omega)
        subst ha1
        have hc := ho.cell (hx k (by omega)).1 id
        have hbr : B < wr.heap.size := Nat.lt_of_lt_of_le hB ho.size
        have hfree : FreeN 1 n R k := Lay.free1.2 ⟨hlt, fun h => by rw [hR0, rowF_mem] at h; omega⟩
        have hmin : ∀ m, FreeN 1 n R m → k ≤ m := fun m hm => by
          have h1 := (Lay.free1.1 hm).2
          rw [hR0, rowF_mem] at h1
          rcases Nat.lt_or_ge m k with h2 | h2
          · exact absurd ⟨by omega, by omega, rfl⟩ h1
          · exact h2
        have HP := Lib.hid (fun W (hW : Lay W b gl gr gf 1 n R V) => h_push W b gl gr gf 1 n R V hW 0 k (xs k) (by omega) hfree hmin)
        have HL := Lib.hid hL
        clear hfree hmin hL CG L3
        go_wp2_with fail
        refine (HP.out _ HL.out).mono ?_
        rintro e w4 ⟨rfl, hL4, o4⟩
        have hz4 := o4.size
        have HL4 := Lib.hid hL4
        clear HP HL hL4
        go_wp2
        go_roundw
        case rel =>
          refine ⟨k + 1, _, _, by omega, by go_num, HL4.out, ?_, ?_, ho.thenB o4 k1 k2 k3 k4, by omega, fun j hj => (hC j hj).only o4 (fun hi => hGn _ hi rfl)⟩
          · rw [upd_same, hR0, rowF_snoc, if_neg (by decide), Nat.zero_add]
          · intro j hj
            by_cases e : j = k
            · subst e; exact upd_same _ _ _
            · rw [upd_other e]; exact hV j (by omega)
        case measure => simp [intOf]; omega
      · have hkn : k = n := by omega
        subst hkn
        have HL := Lib.hid hL
        clear hL CG L3
        go_wp2
        go_loopw [13] (fun s wr => ∃ (i : Nat) (g : Nat → Bool) (R : Nat → List Nat) (V : Nat → Int), i ≤ len2 ∧ s = .int .i64 i ∧ Lay wr b gl gr gf 1 k R V ∧ R 0 = rowF g 0 k ∧ (∀ j, j < k → g j = false → V j = xs j) ∧ Only (fun _ => False) w wr ∧ w2.heap.size < wr.heap.size ∧ ∀ j, j < k → Cell wr w2.heap.size j (.bool (g j)))
          (fun s _ => len2 - (intOf s).toNat)
        case atStart => exact ⟨0, fun _ => false, R, V, by omega, rfl, HL.out, hR0, fun j hj _ => hV j hj, ho, hw2, hC⟩
        case round =>
          clear HL hR0 hV ho hw2 hC R V
          obtain ⟨i, g, R, V, hi, rfl, hL, hR0, hV, ho, hw2, hC⟩ := hrel
          by_cases hlt2 : i < len2
          · obtain ⟨hb1, hB2⟩ := ha2 (by omega)
            subst hb1
            obtain ⟨hcy, hwy⟩ := hy i hlt2
            have hcy := ho.cell hcy id
            have hbr2 : B2 < wr.heap.size := Nat.lt_of_lt_of_le hB2 ho.size
            generalize ys i = y at hcy hwy
            have bnd := bounds_i64 hwy
            have HL := Lib.hid hL
            have HC := Lib.hid hC
            clear hC
            by_cases hy0 : y < 0
            · have e1 : decide (0 ≤ y) = false := by simpa using hy0
              clear hL
              go_wp2
              go_roundw
              case rel => exact ⟨i + 1, g, R, V, by omega, by go_num, HL.out, hR0, hV, ho, hw2, HC.out⟩
              case measure => simp [intOf]; omega
            · by_cases hyn : (k : Int) ≤ y
              · have e1 : decide (0 ≤ y) = true := by simpa using hy0
                have e2 : decide (y < k) = false := by simpa using hyn
                clear hL
                go_wp2
                go_roundw
                case rel => exact ⟨i + 1, g, R, V, by omega, by go_num, HL.out, hR0, hV, ho, hw2, HC.out⟩
                case measure => simp [intOf]; omega
              · obtain ⟨m, rfl⟩ : ∃ m : Nat, y = (m : Int) := ⟨y.toNat, by omega⟩
                have hm : m < k := by omega
                obtain ⟨ha1, hB⟩ := ha (by omega)
                subst ha1
                have hcx := (hx m (by omega)).1
                have hR1 : ∀ r, r < 1 → R r = R 0 := fun r hr => by rw [show r = 0 by omega]
                by_cases hg : g m = true
                · have HP := Lib.hid (fun W (hW : Lay W b gl gr gf 1 k R V) => h_take_no W b gl gr gf 1 k R V hW m (fun r hr j hj => by
                    rw [hR1 r hr, hR0, rowF_mem] at hj
                    intro e
                    have : j = m := by omega
                    rw [this, hg] at hj
                    cases hj.2.2))
                  clear hL hR1 hy0 hyn
                  go_wp2_with fail
                  refine (HP.out _ HL.out).mono ?_
                  rintro e w4 ⟨rfl, o4⟩
                  have p4 := ho.then0 o4
                  have hcx4 := p4.cell hcx id
                  have hz4 := o4.size
                  have hbx : B < w4.heap.size := Nat.lt_of_lt_of_le hB p4.size
                  obtain ⟨cg, ug⟩ := (HC.out m hm).only o4 id
                  rw [hg] at cg
                  have HL4 := Lib.hid (HL.out.keep o4 (fun _ _ => id))
                  clear HP HL
                  go_wp2
                  go_roundw
                  case rel =>
                    have eg : upd g m true = g := by funext j; by_cases e : j = m <;> simp [upd, e, hg]
                    have hcc := cells_upd (fun j hj => (HC.out j hj).only o4 id) m
                    rw [eg] at hcc
                    exact ⟨i + 1, g, R, V, by omega, by go_num, HL4.out.keep ((Only.refl (· = w2.heap.size) w4).setCell (.inl rfl) _) (fun i hi e => hGn i hi e), hR0, hV, p4.setCell (.inr hG) _, by simp; omega, hcc⟩
                  case measure => simp [intOf]; omega
                · have hg : g m = false := by simpa using hg
                  obtain ⟨l1, hs1, hs2⟩ := rowF_split g m hg k 0 (by omega) (by omega)
                  have hvx := hV m hm hg
                  have HP := Lib.hid (fun W (hW : Lay W b gl gr gf 1 k R V) => h_take W b gl gr gf 1 k R V hW 0 m (by omega) l1 _ (hR0.trans hs1))
                  rw [hvx] at HP
                  clear hL hR1 hy0 hyn
                  go_wp2_with fail
                  refine (HP.out _ HL.out).mono ?_
                  rintro e w4 ⟨rfl, hL4, o4⟩
                  have p4 := ho.thenB o4 k1 k2 k3 k4
                  have hcx4 := p4.cell hcx id
                  have hz4 := o4.size
                  have hbx : B < w4.heap.size := Nat.lt_of_lt_of_le hB p4.size
                  obtain ⟨cg, ug⟩ := (HC.out m hm).only o4 (fun hi => hGn _ hi rfl)
                  rw [hg] at cg
                  have HL4 := Lib.hid hL4
                  clear HP HL hL4
                  go_wp2
                  go_roundw
                  case rel =>
                    refine ⟨i + 1, upd g m true, _, _, by omega, by go_num, HL4.out.keep ((Only.refl (· = w2.heap.size) w4).setCell (.inl rfl) _) (fun i hi e => hGn i hi e), ?_, ?_, p4.setCell (.inr hG) _, by simp; omega, cells_upd (fun j hj => (HC.out j hj).only o4 (fun hi => hGn _ hi rfl)) m⟩
                    · rw [upd_same, hs2]
                    · intro j hj hgj
                      by_cases e : j = m
                      · subst e; rw [upd_same] at hgj; cases hgj
                      · rw [upd_other e] at hgj ⊢; exact hV j hj hgj
                  case measure => simp [intOf]; omega
          · have hin : i = len2 := by omega
            subst hin
            have HF := Lib.hid (h_first wr b gl gr gf 1 k R V hL 0 (by omega))
            rw [hR0] at HF
            have HL := Lib.hid hL
            have HC := Lib.hid hC
            clear hL hC
            go_wp2_with fail
            refine HF.out.mono ?_
            rintro e wf ⟨rfl, rfl⟩
            go_wp2
            go_loopw [17, 18] (fun s3 s wr => ∃ (i : Nat), i ≤ k ∧ s3 = .int .i64 (hdI (rowF g i (k - i))) ∧ s = .int .i64 i ∧ Lay wr b gl gr gf 1 k R V ∧ Only (fun _ => False) w wr ∧ w2.heap.size < wr.heap.size ∧ ∀ j, j < k → Cell wr w2.heap.size j (.bool (g j)))
              (fun _ s _ => k - (intOf s).toNat)
            case atStart => exact ⟨0, by omega, rfl, rfl, HL.out, ho, hw2, HC.out⟩
            case round =>
              clear HL HF ho hw2 HC
              obtain ⟨q, hq, rfl, rfl, hL, ho, hw2, hC⟩ := hrel
              by_cases hlt3 : q < k
              · obtain ⟨c, hc⟩ : ∃ c, k - q = c + 1 := ⟨k - q - 1, by omega⟩
                have hc2 : k - (q + 1) = c := by omega
                obtain ⟨cg, ug⟩ := hC q hlt3
                have HL := Lib.hid hL
                have HC := Lib.hid hC
                by_cases hg : g q = true
                · have e : rowF g q (k - q) = rowF g (q + 1) (k - (q + 1)) := by rw [hc, hc2, rowF_succ, if_pos hg]
                  rw [e]
                  rw [hg] at cg
                  obtain ⟨top, htop⟩ : ∃ top, top = hdI (rowF g (q + 1) (k - (q + 1))) := ⟨_, rfl⟩
                  rw [← htop]
                  have HT := Lib.hid htop
                  clear htop
                  clear hL hC e
                  go_wp2
                  go_roundw
                  case rel => exact ⟨q + 1, by omega, by rw [HT.out], by go_num, HL.out, ho, hw2, HC.out⟩
                  case measure => simp [intOf]; omega
                · have hg : g q = false := by simpa using hg
                  have e : hdI (rowF g q (k - q)) = q := by rw [hc, rowF_succ, if_neg (by rw [hg]; decide)]; rfl
                  rw [e]
                  rw [hg] at cg
                  obtain ⟨l1, hs1, hs2⟩ := rowF_split g q hg k 0 (by omega) (by omega)
                  have HP := Lib.hid (h_next wr b gl gr gf 1 k R V hL 0 q (by omega) l1 _ (hR0.trans hs1))
                  rw [Nat.zero_add] at HP
                  obtain ⟨top, htop⟩ : ∃ top, top = hdI (rowF g (q + 1) (k - (q + 1))) := ⟨_, rfl⟩
                  rw [← htop] at HP
                  have HT := Lib.hid htop
                  clear hL hC e htop hs1 hs2 hc hc2
                  go_wp2_with fail
                  refine HP.out.mono ?_
                  rintro e w4 ⟨rfl, rfl⟩
                  go_wp2
                  go_roundw
                  case rel => exact ⟨q + 1, by omega, by rw [HT.out], by go_num, HL.out, ho, hw2, HC.out⟩
                  case measure => simp [intOf]; omega
              · have hqk : q = k := by omega
                subst hqk
                have e : hdI (rowF g q (q - q)) = -1 := by rw [Nat.sub_self]; rfl
                rw [e]
                clear hL hC
                go_wp2
                go_returns
                exact ⟨rfl, ho⟩

theorem slotsRow_walk (w : World) (a : Option Addr) (len cap : Nat) (rows : List (List Value)) (hs : SliceIn w a len cap [.i .i64] rows) (hlen : len * 8 ≤ 140737488351232)
    (a2 : Option Addr) (len2 cap2 : Nat) (rows2 : List (List Value)) (hs2 : SliceIn w a2 len2 cap2 [.i .i64] rows2) (hlen2 : len2 * 8 ≤ 140737488351232) :
    Calls Try.prog 8 #[.slice a len cap, .slice a2 len2 cap2] w fun e w' => e = .returned (.bool true) ∧ Below w.heap.size w w' := by
  obtain ⟨xs, B, off, h1, h2⟩ := hs.ints
  obtain ⟨ys, B2, off2, h3, h4⟩ := hs2.ints
  exact (slotsRow_yes w a len cap xs B off h1 h2 a2 len2 cap2 ys B2 off2 h3 h4 (by omega) (by omega)).mono fun _ _ ⟨he, ho⟩ => ⟨he, ho.below⟩
end Go.Proofs.Ytiiflgihjnlmcaa
