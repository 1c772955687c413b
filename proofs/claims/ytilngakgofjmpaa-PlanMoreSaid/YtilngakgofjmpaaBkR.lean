/- The book: Reduce. Conditions: a book as its New lays it. -/
import Derived.Test.YtilngakgofjmpaaBkE
namespace Go.Proofs.Ytilngakgofjmpaa
set_option linter.unusedVariables false
set_option linter.unusedSimpArgs false
open Go.RowKit Go.Shelf
open Od (OrdR Lay FreeN Blk4)

/-- What Reduce answers, and the orders behind it. -/
def redE (l : Bool → List OrdR) (k m : Int) : Int := match getL l k with | none => 63 | some o => if m < 1 ∨ o.q ≤ m then 64 else 0
def less (o : OrdR) (m : Int) : OrdR := { o with q := o.q - m }
def redS (l : Bool → List OrdR) (k m : Int) : Bool → List OrdR := match getL l k with | none => l | some o => if m < 1 ∨ o.q ≤ m then l else fun q => setL k (less o m) (l q)

section
variable {w : World} {b : Nat} {bs gu : Bool → Nat} {hv : Bool → Value} {ba gl gr gf bm most room : Nat} {L : Bool → List (Int × Nat)} {R : Nat → List Nat} {V : Nat → OrdR} {F : Int → Option Int} {l : Bool → List OrdR}
set_option maxRecDepth 100000 in
set_option maxHeartbeats 1000000 in
theorem k_red_no (h : BookM w b bs gu hv ba gl gr gf bm most room L R V F l) (k m : Int) (hw : Wf k) (hf : F k = none) :
    Calls Try.prog 40 #[.pointer (some ⟨b, 0, none⟩), .int .i64 k, .int .i64 m] w fun e w' => e = .returned (.int .i64 63) ∧ Only (fun _ => False) w w' := by
  have HG := Lib.hid (k_get_no h k hw hf)
  unfold ordV zOrd at HG
  simp only at HG
  clear h hw hf
  go_enter Try.func40, Try.ntmps40
  go_wp2_with fail
  refine HG.out.mono ?_
  rintro e w1 ⟨rfl, o1⟩
  go_wp2_with fail
  go_returns
  exact ⟨rfl, by repeat' (first | (with_reducible exact Only.refl _ _) | (with_reducible assumption) | (refine Only.of_none ?_; with_reducible assumption) | (with_reducible refine Only.drewN ?_ _) | (with_reducible refine Only.drew ?_) | (with_reducible refine Only.alloc ?_ _) | (with_reducible refine Only.setCell ?_ ?_ _) | (with_reducible refine Only.then0 ?_ (by with_reducible assumption)) | (with_reducible refine Only.thenN ?_ (by with_reducible assumption) ?_) | (with_reducible refine Only.trans ?_ (by with_reducible assumption)) | (refine .inl ?_; first | rfl | (simp; done) | (simp [Ar.blk]; done)) | (refine .inr ?_; first | omega | (simp; done) | (simp; omega) | exact Only.size (by with_reducible assumption) | (refine Nat.le_trans (Only.size (by with_reducible assumption)) ?_; simp; done)))⟩
set_option maxRecDepth 100000 in
set_option maxHeartbeats 1000000 in
theorem k_red_bad (h : BookM w b bs gu hv ba gl gr gf bm most room L R V F l) (k m : Int) (hw : Wf k) (n : Nat) (hf : F k = some (n : Int)) (hm : m < 1 ∨ (V n).q ≤ m) :
    Calls Try.prog 40 #[.pointer (some ⟨b, 0, none⟩), .int .i64 k, .int .i64 m] w fun e w' => e = .returned (.int .i64 64) ∧ Only (fun _ => False) w w' := by
  have HG := Lib.hid (k_get h k hw n hf)
  unfold ordV at HG
  generalize V n = o at *
  obtain ⟨oi, oc, os, op, oq⟩ := o
  simp only at HG hm
  clear h hw hf
  by_cases h1 : m < 1
  · have t1 : decide (m < 1) = true := by simpa using h1
    clear hm h1
    go_enter Try.func40, Try.ntmps40
    go_wp2_with fail
    refine HG.out.mono ?_
    rintro e w1 ⟨rfl, o1⟩
    go_wp2_with fail
    go_returns
    exact ⟨rfl, by repeat' (first | (with_reducible exact Only.refl _ _) | (with_reducible assumption) | (refine Only.of_none ?_; with_reducible assumption) | (with_reducible refine Only.drewN ?_ _) | (with_reducible refine Only.drew ?_) | (with_reducible refine Only.alloc ?_ _) | (with_reducible refine Only.setCell ?_ ?_ _) | (with_reducible refine Only.then0 ?_ (by with_reducible assumption)) | (with_reducible refine Only.thenN ?_ (by with_reducible assumption) ?_) | (with_reducible refine Only.trans ?_ (by with_reducible assumption)) | (refine .inl ?_; first | rfl | (simp; done) | (simp [Ar.blk]; done)) | (refine .inr ?_; first | omega | (simp; done) | (simp; omega) | exact Only.size (by with_reducible assumption) | (refine Nat.le_trans (Only.size (by with_reducible assumption)) ?_; simp; done)))⟩
  · have t1 : decide (m < 1) = false := by simpa using h1
    have t2 : decide (oq ≤ m) = true := by simp; omega
    clear hm h1
    go_enter Try.func40, Try.ntmps40
    go_wp2_with fail
    refine HG.out.mono ?_
    rintro e w1 ⟨rfl, o1⟩
    go_wp2_with fail
    go_returns
    exact ⟨rfl, by repeat' (first | (with_reducible exact Only.refl _ _) | (with_reducible assumption) | (refine Only.of_none ?_; with_reducible assumption) | (with_reducible refine Only.drewN ?_ _) | (with_reducible refine Only.drew ?_) | (with_reducible refine Only.alloc ?_ _) | (with_reducible refine Only.setCell ?_ ?_ _) | (with_reducible refine Only.then0 ?_ (by with_reducible assumption)) | (with_reducible refine Only.thenN ?_ (by with_reducible assumption) ?_) | (with_reducible refine Only.trans ?_ (by with_reducible assumption)) | (refine .inl ?_; first | rfl | (simp; done) | (simp [Ar.blk]; done)) | (refine .inr ?_; first | omega | (simp; done) | (simp; omega) | exact Only.size (by with_reducible assumption) | (refine Nat.le_trans (Only.size (by with_reducible assumption)) ?_; simp; done)))⟩

set_option maxRecDepth 100000 in
set_option maxHeartbeats 4000000 in
theorem k_red (h : BookM w b bs gu hv ba gl gr gf bm most room L R V F l) (k m : Int) (hw : Wf k) (n : Nat) (q : Bool) (hf : F k = some (n : Int)) (hn : n ∈ nums (fst most q) (L q) R) (hi : (V n).i = k) (h1 : 1 ≤ m) (h2 : m < (V n).q) :
    Calls Try.prog 40 #[.pointer (some ⟨b, 0, none⟩), .int .i64 k, .int .i64 m] w (BkPost w b (BkT b bs gu hv ba gl gr gf bm) most room (setS l q (setL k (less (V n) m) (l q))) (.int .i64 0)) := by
  have hok := h.rep.ok q _ (h.rep.mem hn)
  have hrep := h.rep.reduce (o := less (V n) m) hn rfl rfl rfl ⟨hok.1, hok.2.1, hok.2.2.1, hok.2.2.2.1, hok.2.2.2.2.1, hok.2.2.2.2.2.1, by show 1 ≤ (V n).q - m; omega, by show (V n).q - m ≤ 1000000000; have := hok.2.2.2.2.2.2.2; omega⟩
  rw [hi] at hrep
  have hq := hok.2.2.2.2.2.2
  have HREP := Lib.hid hrep
  have HG := Lib.hid (k_get h k hw n hf)
  obtain ⟨x, hx, hr⟩ := mem_nums.1 hn
  have hxr := h.rep.lt q x hx
  have HSET := Lib.hid fun W (o : Only (fun _ => False) w W) => Od.h_set W ba gl gr gf (2 * most + 1) room R V (h.lay.keep o (fun _ _ => id)) (fst most q + x.2) n (less (V n) m) (fst_row hxr) hr
  have HL := Lib.hid fun W (o : Only (fun _ => False) w W) => (h.im.only o id).look1 hw
  rw [hf] at HL
  simp only [Option.getD_some] at HL
  have HM := Lib.hid h
  unfold ordV at HG
  unfold less at HSET
  have HVN : Hid (less (V n) m = { V n with q := (V n).q - m }) := Lib.hid rfl
  obtain ⟨o, ho⟩ : ∃ o, o = V n := ⟨_, rfl⟩
  rw [← ho] at HG HSET h2 hq HREP ⊢
  have HO := Lib.hid ho
  obtain ⟨oi, oc, os, op, oq⟩ := o
  simp only at HG HSET h2 hq
  have t1 : decide (m < 1) = false := by simp; omega
  have t2 : decide (oq ≤ m) = false := by simp; omega
  have w1 : IntKind.i64.wrap (oq - m) = oq - m := by rw [IntKind.wrap_i64]; omega
  clear h hw hf hn hi hok hrep hx hr hxr HVN ho
  go_enter Try.func40, Try.ntmps40
  go_wp2_with fail
  refine HG.out.mono ?_
  rintro e w1 ⟨rfl, o1⟩
  have h5 := Five.new w1 (.int .i64 oi) (.int .i64 oc) (.int .u8 os) (.int .i64 op) (.int .i64 oq) 54
  have o2 := o1.alloc (.cells #[.int .i64 oi, .int .i64 oc, .int .u8 os, .int .i64 op, .int .i64 oq] 54)
  obtain ⟨g, hg⟩ : ∃ g, w1.heap.size = g := ⟨_, rfl⟩
  have hgw : w.heap.size ≤ g := by have := o1.size; omega
  rw [hg] at h5
  obtain ⟨W2, hW2⟩ : ∃ W2, w1.alloc (.cells #[.int .i64 oi, .int .i64 oc, .int .u8 os, .int .i64 op, .int .i64 oq] 54) = W2 := ⟨_, rfl⟩
  rw [hW2] at h5 o2
  have c4 := (HM.out.only o2 (fun _ _ => id)).c4.cell
  have q4 := h5.c4.cell
  have f4 := h5.c4.free
  have zq := cell_lt q4
  have o3 := (Only.of_none (S := (· = g)) o2).setCell (p := ⟨g, 4, none⟩) (.inl rfl) (.int .i64 (oq - m))
  have o3n : Only (fun _ => False) w (W2.setCell ⟨g, 4, none⟩ (.int .i64 (oq - m))) := o2.trans' ((Only.refl (· = g) W2).setCell (p := ⟨g, 4, none⟩) (.inl rfl) (.int .i64 (oq - m))) (fun i h1 h2 => by omega)
  have k0 := (h5.c0.far (off_ne (b := g) (o := 4) (by decide)) (.int .i64 (oq - m))).cell
  have k1 := (h5.c1.far (off_ne (b := g) (o := 4) (by decide)) (.int .i64 (oq - m))).cell
  have k2 := (h5.c2.far (off_ne (b := g) (o := 4) (by decide)) (.int .i64 (oq - m))).cell
  have k3 := (h5.c3.far (off_ne (b := g) (o := 4) (by decide)) (.int .i64 (oq - m))).cell
  have k4 := (h5.c4.set (.int .i64 (oq - m))).cell
  obtain ⟨W3, hW3⟩ : ∃ W3, W2.setCell ⟨g, 4, none⟩ (.int .i64 (oq - m)) = W3 := ⟨_, rfl⟩
  rw [hW3] at o3n k0 k1 k2 k3 k4
  have c4' := (HM.out.only o3n (fun _ _ => id)).c4.cell
  have c5' := (HM.out.only o3n (fun _ _ => id)).c5.cell
  have hl : (Instr.lookup 152 (.map (some bm)) (.int .i64 k) false).run Try.prog W3.drew = .ok (.int .i64 (n : Int)) W3.drew := HL.out _ o3n.drew
  have z4 := cell_lt c4'
  have zk := cell_lt k0
  have HO3 := Lib.hid o3n
  have HW2 := Lib.hid hW2
  have HW3 := Lib.hid hW3
  have HG1 := Lib.hid hg
  clear o1 o2 o3 h5 hW2 hW3 hg o3n
  go_upto_region 4 with fail
  try rw [HG1.out]
  try rw [HW2.out]
  go_upto_region 7 with fail
  try rw [HW3.out]
  clear q4 f4 zq c4
  go_still_tail 11, (by kernel_rfl)
  change wpList _ _ _ _ _ W3.drew
  go_wp2_with fail
  refine (HSET.out _ HO3.out.drew).mono ?_
  rintro e w4 ⟨rfl, lay4, o4⟩
  have HL4 := Lib.hid lay4
  have HO4 := Lib.hid o4
  clear lay4 o4
  go_wp2_with fail
  go_returns
  have O4 : Only (BkS bs gu hv ba gl gr gf bm q) w w4 := (Only.of_none HO3.out.drew).trans (HO4.out.mono fun i _ hi => .inr (.inl hi))
  have M := HM.out
  have hsd := SideU.only (SideU.only (M.sd q) HO3.out.drew (fun _ _ => id)) HO4.out (fun i hi hj => (M.dq q i hi).1 hj)
  have him := (M.im.only HO3.out.drew id).only HO4.out (fun hj => M.da bm hj rfl)
  have hR := HREP.out
  have hLL : setS L q (L q) = L := funext fun p => by
    by_cases e : p = q
    · subst e; rw [setS_same]
    · rw [setS_other e]
  refine M.post q (F' := F) (L' := L q) (hv' := hv q) (R' := R) (V' := Od.upd V n (less ⟨oi, oc, os, op, oq⟩ m)) rfl O4 hsd (.inl rfl) HL4.out ?_ (by rw [hLL]; exact hR)
  have hlen : (setS l q (setL k (less ⟨oi, oc, os, op, oq⟩ m) (l q)) false).length + (setS l q (setL k (less ⟨oi, oc, os, op, oq⟩ m) (l q)) true).length = (l false).length + (l true).length := by
    cases q
    · rw [setS_same, setS_other (by decide)]; unfold setL; rw [List.length_map]
    · rw [setS_same, setS_other (by decide)]; unfold setL; rw [List.length_map]
  rw [hlen]; exact him
end

theorem bk_reduce {w : World} {b most room : Nat} {T : Nat → Prop} {l : Bool → List OrdR} (h : Bk w b T most room l) (k m : Int) (hw : Wf k) : Calls Try.prog 40 #[.pointer (some ⟨b, 0, none⟩), .int .i64 k, .int .i64 m] w (BkPost w b T most room (redS l k m) (.int .i64 (redE l k m))) := by
  obtain ⟨bs, gu, hv, ba, gl, gr, gf, bm, L, R, V, F, h, rfl⟩ := h
  unfold redS redE
  cases hf : F k with
  | none =>
    rw [h.rep.getNone hw hf]
    exact (k_red_no h k m hw hf).mono fun e w' ⟨he, ho⟩ => h.stay he ho
  | some v =>
    obtain ⟨n, q, rfl, hmem, hi, hin⟩ := h.rep.found hw hf
    rw [h.rep.getSome hw hf]
    simp only
    by_cases hm : m < 1 ∨ (V n).q ≤ m
    · rw [if_pos hm, if_pos hm]
      exact (k_red_bad h k m hw n hf hm).mono fun e w' ⟨he, ho⟩ => h.stay he ho
    · rw [if_neg hm, if_neg hm]
      have e2 : (fun q => setL k (less (V n) m) (l q)) = setS l q (setL k (less (V n) m) (l q)) := funext fun p => by
        by_cases e : p = q
        · subst e; rw [setS_same]
        · rw [setS_other e]
          exact setL_not fun o ho => by rw [← hi]; exact (h.rep.idsNe e hin ho).symm
      rw [e2]
      exact k_red h k m hw n q hf hmem hi (by omega) (by omega)
theorem bk_get {w : World} {b most room : Nat} {T : Nat → Prop} {l : Bool → List OrdR} (h : Bk w b T most room l) (k : Int) (hw : Wf k) : Calls Try.prog 38 #[.pointer (some ⟨b, 0, none⟩), .int .i64 k] w fun e w' => e = .returned (match getL l k with | none => .tuple #[ordV zOrd, .bool false] | some o => .tuple #[ordV o, .bool true]) ∧ Only (fun _ => False) w w' := by
  obtain ⟨bs, gu, hv, ba, gl, gr, gf, bm, L, R, V, F, h, rfl⟩ := h
  cases hf : F k with
  | none => rw [h.rep.getNone hw hf]; exact k_get_no h k hw hf
  | some v =>
    obtain ⟨n, q, rfl, hmem, hi, hin⟩ := h.rep.found hw hf
    rw [h.rep.getSome hw hf]; exact k_get h k hw n hf
end Go.Proofs.Ytilngakgofjmpaa
