/- The document's arena: Take. Conditions: an arena as its New lays it, the numbers of the rows distinct and within the room. -/
import Derived.Test.YtiiflgihjnlmcaaRef3
namespace Go.Proofs.Ytiiflgihjnlmcaa
set_option linter.unusedVariables false
set_option linter.unusedSimpArgs false
open Go.RowKit

section
variable {P : Program} {w : World}
/-- An append onto a slice of one's own, at a step of a region that draws its order. -/
theorem step_append_own_at {ops : Array Oper} {o : Oper} {a : Act} {K : Act → World → Prop} {Q : Exit → Act → World → Prop} {E : Prop} (hgd : o.guard = none) (s x : Operand) (t : TypeId)
    (ho : o.op = .call { callee := .builtin .append, args := #[s, x], argTypes := #[t, t] })
    (base : Nat) (e : TypeId) (i : TypeInfo) (z : Value) (size bytes : Nat) (ht : P.underlying t = some (.slice e)) (hi : P.info? e = some i) (hz : i.zero = some z)
    (hsize : i.size = size) (hby : i.bytes = bytes) (hzs : z.cells.size = size) (hsz : 0 < size)
    (v : Value) (n : Nat) (xs : List Value) (hs : a.eval s = v) (hown : w.ownsRow base e size v n xs)
    (ad : Addr) (m c : Nat) (news : List Value) (hx : a.eval x = .slice (some ad) m c) (hl : news.length = m * size) (hnews : ∀ j u, news[j]? = some u → w.cell? (ad.add j) = some u) (h1 : ∀ u ∈ news, u.oneCell' = true)
    (h63 : n + m ≤ maxLen) (hbytes : (n + m) * bytes ≤ 140737488355328) (hbase : base ≤ w.heap.size)
    (h : ∀ v' w', w'.ownsRow base e size v' (n + m) (xs ++ news) → w.grownBy w' v.ownBlock → (v'.ownBlock = v.ownBlock ∨ v'.ownBlock = some w.heap.size) → K (a.put o.dst v') w') :
    if Region.wanted o (yielded ops a.tmps) = true then Oper.wp P o a w K Q else E := by
  have hw : Region.wanted o (yielded ops a.tmps) = true := by simp [Region.wanted, hgd]
  rw [if_pos hw]
  obtain ⟨v', w', hr, h2, h3, h4, h5⟩ := run_append_own_at (P := P) w base t o.type e i z size bytes ht hi hz hsize hby hzs hsz v n xs hown ad m c news hl hnews h1 h63 hbytes hbase
  unfold Oper.wp execOp
  simp only [ho, resolve, invoke, builtin, Sem.run_bind, Sem.run_pure, Result.andThen_ok, List.map_toArray, List.map_cons, List.map_nil, hs, hx, hr]
  exact h v' w' h2 h3 h5
end

theorem own_block {w : World} {base : Nat} {e : TypeId} {size : Nat} {v : Value} {n : Nat} {xs : List Value} (h : w.ownsRow base e size v n xs) : v.ownBlock = none ∨ ∃ g, v.ownBlock = some g ∧ base ≤ g := by
  rcases h.2 with ⟨rfl, _⟩ | ⟨g, cap, cur, rfl, hb, _⟩
  · exact .inl rfl
  · exact .inr ⟨g, rfl, hb⟩

section
variable {base : Nat} {w : World} {b gr gu nr room : Nat} {hv : Nat → Value} {R : Nat → List Nat} {V : Nat → Int}

theorem ra_take_no (h : RaAt base w b gr gu nr room hv R V) (n : Int) (hn : ∀ r, r < nr → ∀ m ∈ R r, (m : Int) ≠ n) :
    Calls Try.prog 125 #[.pointer (some ⟨b, 0, none⟩), .int .i64 n] w fun e w' => e = .returned (.tuple #[.int .i64 0, .bool false]) ∧ w = w' := by
  have HW := Lib.hid (ra_where_no h n hn)
  clear h hn
  go_enter Try.func125, Try.ntmps125
  go_wp2_with fail
  refine HW.out.mono ?_
  rintro e w1 ⟨rfl, rfl⟩
  go_wp2_with fail
  go_returns
  exact ⟨rfl, rfl⟩

set_option maxHeartbeats 4000000 in
set_option maxRecDepth 100000 in
theorem ra_take (h : RaAt base w b gr gu nr room hv R V) (ok : RowsOk nr room R) (r n : Nat) (hr : r < nr) (l1 l2 : List Nat) (hs : R r = l1 ++ n :: l2) :
    Calls Try.prog 125 #[.pointer (some ⟨b, 0, none⟩), .int .i64 n] w (RaStep base w b gr gu nr room (upd R r (l1 ++ l2)) (upd V n 0) (.tuple #[.int .i64 (V n), .bool true])) := by
  have HW := Lib.hid (ra_where h ok r n hr l1 l2 hs)
  obtain ⟨i3, hi3, hz3, hs3, hb3⟩ := info_parts Try.infoThing
  obtain ⟨g, cap, len, eg, el, hc, hp, hg, hd, v1, v2⟩ := h.spot hr hs
  have hln := ok.len r hr
  rw [← el] at hln
  have hsm := h.small
  have c0 := h.c0.cell
  have c2 := h.c2.cell
  have hlt := cell_lt c0
  have hgr := cell_lt hd
  have hlow := h.low
  have hnn := ok.lt r hr n (by rw [hs]; simp)
  have hne := h.ne
  have v2 := v2.cell
  have hgg := cell_lt v2
  have hcells : ∀ j u, (thV V (l1 ++ n :: l2))[j]? = some u → w.cell? ⟨g, j, none⟩ = some u := fun j u hu => by
    have own := h.own r hr
    rw [hs] at own
    obtain ⟨g', cap', e', _, _, _, hc'⟩ := own_cell own (by simp only [List.length_append, List.length_cons]; omega)
    rw [eg] at e'
    obtain rfl : g = g' := by injection e' with e1 e2 e3; injection e1 with e1; injection e1 with e1
    exact (hc' j u hu).cell
  have n1 : ∀ j u, (thV V l1)[j]? = some u → w.cell? ((⟨g, 0, none⟩ : Addr).add j) = some u := fun j u hu => by
    rw [show (⟨g, 0, none⟩ : Addr).add j = ⟨g, j, none⟩ by unfold Addr.add; split <;> simp_all]
    exact hcells j u (by rw [thV_append, List.getElem?_append_left (List.getElem?_eq_some_iff.1 hu).1]; exact hu)
  have n2 : ∀ j u, (thV V l2)[j]? = some u → w.cell? ((⟨g, (l1.length + 1) * 2, none⟩ : Addr).add j) = some u := fun j u hu => by
    rw [show (⟨g, (l1.length + 1) * 2, none⟩ : Addr).add j = ⟨g, (l1.length + 1) * 2 + j, none⟩ by unfold Addr.add; split <;> simp_all]
    refine hcells _ u ?_
    rw [show l1 ++ n :: l2 = (l1 ++ [n]) ++ l2 by simp, thV_append, List.getElem?_append_right (by rw [thV_length]; simp), thV_length]
    simpa using hu
  have el2 : len = l1.length + 1 + l2.length := by rw [el, hs]; simp; omega
  have hu2 := h.us n hnn
  have nd := ok.nd r hr
  rw [hs] at nd
  have nd2 := List.nodup_append.1 nd
  have q1 : n ∉ l1 := fun hm => nd2.2.2 n hm n (by simp) rfl
  have q2 : n ∉ l2 := (List.nodup_cons.1 nd2.2.1).1
  have hnV : ∀ i, i < nr → i ≠ r → ∀ m ∈ R i, upd V n 0 m = V m := fun i hi hir m hm => upd_other (fun e => hir (ok.other i r n hi hr (e ▸ hm) (by rw [hs]; simp)))
  have hth : thV (upd V n 0) (l1 ++ l2) = thV V l1 ++ thV V l2 := by
    rw [thV_append, thV_congr (V := V) (l := l1) fun k hk => upd_other (fun e : k = n => q1 (e ▸ hk)), thV_congr (V := V) (l := l2) fun k hk => upd_other (fun e : k = n => q2 (e ▸ hk))]
  have hfin : ∀ k, k < room → upd (usedB nr R) n false k = usedB nr (upd R r (l1 ++ l2)) k := fun k hk => by
    by_cases e : k = n
    · subst e
      rw [upd_same, eq_comm, usedB_false]
      intro s hs2 hm
      by_cases e2 : s = r
      · subst e2; rw [upd_same] at hm
        rcases List.mem_append.1 hm with h1 | h1
        · exact q1 h1
        · exact q2 h1
      · rw [upd_other e2] at hm; exact e2 (ok.other s r k hs2 hr hm (by rw [hs]; simp))
    · rw [upd_other e, Bool.eq_iff_iff, usedB_iff, usedB_iff]
      constructor
      · rintro ⟨s, hs2, hm⟩
        refine ⟨s, hs2, ?_⟩
        by_cases e2 : s = r
        · subst e2; rw [upd_same]; rw [hs] at hm
          simp only [List.mem_append, List.mem_cons] at hm ⊢
          rcases hm with h1 | h1 | h1
          · exact .inl h1
          · exact absurd h1 e
          · exact .inr h1
        · rw [upd_other e2]; exact hm
      · rintro ⟨s, hs2, hm⟩
        refine ⟨s, hs2, ?_⟩
        by_cases e2 : s = r
        · subst e2; rw [upd_same] at hm; rw [hs]
          simp only [List.mem_append, List.mem_cons] at hm ⊢
          rcases hm with h1 | h1
          · exact .inl h1
          · exact .inr (.inr h1)
        · rw [upd_other e2] at hm; exact hm
  have hl1 := thV_length V l1
  have hl2 := thV_length V l2
  have ho1 := thV_one V l1
  have ho2 := thV_one V l2
  obtain ⟨xs1, hx1⟩ : ∃ xs1, thV V l1 = xs1 := ⟨_, rfl⟩
  obtain ⟨xs2, hx2⟩ : ∃ xs2, thV V l2 = xs2 := ⟨_, rfl⟩
  obtain ⟨p, hpp⟩ : ∃ p, p = l1.length := ⟨_, rfl⟩
  obtain ⟨m, hm⟩ : ∃ m, m = l2.length := ⟨_, rfl⟩
  rw [hx1] at n1 hth hl1 ho1
  rw [hx2] at n2 hth hl2 ho2
  rw [← hpp] at hp HW n2 hl1 el2 v2
  rw [← hm] at hl2 el2
  have i1 : (0 : Int) ≤ (r : Int) ∧ (r : Int) < (nr : Int) := by omega
  have i2 : (0 : Int) ≤ (p : Int) ∧ (p : Int) < (len : Int) := by omega
  have i3' : (0 : Int) ≤ (n : Int) ∧ (n : Int) < (room : Int) := by omega
  have w1 : IntKind.i64.wrap ((p : Int) + 1) = (p : Int) + 1 := by rw [IntKind.wrap_i64]; omega
  obtain ⟨vn, hvn⟩ : ∃ vn, vn = V n := ⟨_, rfl⟩
  rw [← hvn] at v2 ⊢
  have N1 := Lib.hid n1
  have N2 := Lib.hid n2
  have HFIN := Lib.hid hfin
  have HNV := Lib.hid hnV
  have HTH := Lib.hid hth
  have HL1 := Lib.hid hl1
  have HL2 := Lib.hid hl2
  have HO1 := Lib.hid ho1
  have HO2 := Lib.hid ho2
  have HH := Lib.hid h
  have HH0 := Lib.hid h
  have HEL := Lib.hid el2
  have HLL := Lib.hid (show (l1 ++ l2).length = p + m from by rw [List.length_append, hpp, hm])
  have HU2 := Lib.hid hu2
  have b1 : (p : Int) ≤ (cap : Int) := by omega
  have b2 : (p : Int) + 1 ≤ (len : Int) := by omega
  have b3 : len ≤ 65536 := by omega
  clear n1 n2 hfin hnV hth hl1 hl2 ho1 ho2 h el el2 hu2 hx1 hx2 hpp hm hvn nd nd2 q1 q2 ok hs hcells v1 eg hln
  go_enter Try.func125, Try.ntmps125
  go_wp2_with fail
  refine HW.out.mono ?_
  rintro e w1 ⟨rfl, rfl⟩
  clear HW
  go_wp2_with (at_builtin; refine wpList_append_own_at _ rfl (.tmp 31) (.tmp 40) 194 rfl base 221 i3 (.agg #[.int .i64 0, .int .i64 0]) 2 16 Try.underlying194 hi3 hz3 hs3 hb3 rfl (by decide) (.slice none 0 0) 0 [] rfl (World.ownsRow_nil _ _ _ _) ⟨g, 0, none⟩ p cap xs1 rfl HL1.out N1.out HO1.out (by unfold maxLen; omega) (by omega) hlow ?_; intro v1 w2 hown1 hgrow1 hnil1 hat1; clear hnil1; simp only [Nat.zero_add, List.nil_append] at hown1; obtain ⟨a1, cap1, rfl, hcap1⟩ := own_slice hown1)
  have o12 : Only (fun _ => False) w w2 := Only.of_grown hgrow1 (fun q e => by cases e)
  have H2 := HH.out.only o12 (fun _ _ => id)
  have hs2 := o12.size
  have N2' := fun j u hu => o12.cell (b := g) (o := (p + 1) * 2 + j) (by have := N2.out j u hu; rwa [show (⟨g, (p + 1) * 2, none⟩ : Addr).add j = ⟨g, (p + 1) * 2 + j, none⟩ by unfold Addr.add; split <;> simp_all] at this) id
  have hd2 := o12.cell hd id
  have c02 := H2.c0.cell
  have c22 := H2.c2.cell
  have hdf2 := (H2.hd r hr).free
  have z1 := cell_lt c02
  have z2 := cell_lt hd2
  have z3 : g < w2.heap.size := by omega
  have hrow : ∀ q, (Value.slice a1 p cap1).ownBlock = some q → w.heap.size ≤ q := fun q e => by
    rcases hat1 with h1 | h1
    · rw [h1] at e; cases e
    · rw [h1] at e; injection e with e; omega
  have hlow2 := H2.low
  have HROW := Lib.hid hrow
  have OWN1 := Lib.hid hown1
  have O12 := Lib.hid o12
  have HH2 := Lib.hid H2
  have NN2 := Lib.hid N2'
  have HD2 := Lib.hid hd2
  clear hown1 hgrow1 hat1 o12 H2 N2' c0 c2 hd v2 N1 N2 HH HU2 HL1 HO1 hrow
  have OW := fun W (o : Only (fun _ => False) w2 W) => Lib.hid (ownsRow_only OWN1.out o (fun _ _ => id))
  have CC := fun W (o : Only (fun _ => False) w2 W) q w3 (hg : World.grownBy W w3 q) (hq : q = (Value.slice a1 p cap1).ownBlock) => Lib.hid (show w3.cell? ⟨b, 0, none⟩ = some (.slice (some ⟨gr, 0, none⟩) nr nr) ∧ w3.cell? ⟨gr, r, none⟩ = some (.slice (some ⟨g, 0, none⟩) len cap) ∧ w3.frozen? ⟨gr, r, none⟩ = false ∧ w3.cell? ⟨b, 2, none⟩ = some (.slice (some ⟨gu, 0, none⟩) room room) ∧ Cell w3 gu n (.bool (usedB nr R n)) ∧ Only (fun _ => False) w w3 ∧ w2.heap.size ≤ w3.heap.size from by
    have RR := HH2.out.only o (fun _ _ => id)
    have hrow : ∀ g, q = some g → w.heap.size ≤ g := fun g e => HROW.out g (by rw [← hq]; exact e)
    have o1 : Only (fun i => w.heap.size ≤ i) W w3 := Only.of_grown hg hrow
    have hl := RR.lows
    exact ⟨(RR.c0.only o1 (by omega)).cell, by have := (Only.refl (fun _ => False) w2).then0 o; exact o1.cell (o.cell HD2.out id) (by omega), ((RR.hd r hr).only o1 (by omega)).free, (RR.c2.only o1 (by omega)).cell, (RR.us n (by omega)).only o1 (by omega), (O12.out.trans o).new o1, Nat.le_trans o.size o1.size⟩)
  have hsz := fun W (o : Only (fun _ => False) w2 W) => Lib.hid o.size
  have b0 : (0 : Int) ≤ (p : Int) + 1 := by omega
  have b4 : ((p : Int) + 1).toNat = p + 1 := by omega
  have hne1 : ¬ gr = b := fun e => hne.1 e.symm
  have hne2 : ¬ gr = gu := hne.2.2
  have fin : ∀ (W w3 : World) (v3 : Value), Only (fun _ => False) w2 W → w3.ownsRow base 221 2 v3 (p + m) (xs1 ++ xs2) → W.grownBy w3 (Value.slice a1 p cap1).ownBlock → (v3.ownBlock = (Value.slice a1 p cap1).ownBlock ∨ v3.ownBlock = some W.heap.size) →
      RaStep base w b gr gu nr room (upd R r (l1 ++ l2)) (upd V n 0) (.tuple #[.int .i64 vn, .bool true]) (.returned (.tuple #[.int .i64 vn, .bool true])) ((w3.setCell ⟨gr, r, none⟩ v3).setCell ⟨gu, n, none⟩ (.bool false)) := fun W w3 v3 oW hown hgrow hat3 => by
    have hW := oW.size
    have o1 : Only (fun i => w.heap.size ≤ i) W w3 := Only.of_grown hgrow (fun q e => HROW.out q e)
    have o03 : Only (fun _ => False) w w3 := (O12.out.trans oW).new o1
    have hB := RaU.row HH0.out hr (w' := w3) (v' := v3) (l' := l1 ++ l2) (V' := upd V n 0) (Only.of_none o03) (by rw [HTH.out, HLL.out]; exact hown) (by
      rcases hat3 with e | e
      · rcases hq : (Value.slice a1 p cap1).ownBlock with _ | g1
        · exact .inl (e.trans hq)
        · exact .inr (.inr ⟨g1, e.trans hq, HROW.out g1 hq⟩)
      · exact .inr (.inr ⟨_, e, by omega⟩)) HNV.out
    exact ⟨_, rfl, (hB.1.mark n false).relabel HFIN.out, hB.2.trans ((Only.refl _ _).setCell (.inl (.inr (.inr (.inl rfl)))) _)⟩
  have FIN := Lib.hid fin
  clear fin
  by_cases hcc : p + 1 = cap
  · have hm0 : m = 0 := by have := HEL.out; omega
    subst hm0
    have hx0 : xs2 = [] := List.eq_nil_of_length_eq_zero (by rw [HL2.out])
    subst hx0
    go_upto_region 7 with fail
    go_region_law (refine step_append_own_at rfl (.tmp 47) (.tmp 57) 194 rfl base 221 i3 (.agg #[.int .i64 0, .int .i64 0]) 2 16 Try.underlying194 hi3 hz3 hs3 hb3 rfl (by decide) (.slice a1 p cap1) p xs1 (by simp [Act.eval, Act.put]) (OW _ (by repeat' (first | (with_reducible exact Only.refl _ _) | (with_reducible assumption) | (refine Only.of_none ?_; with_reducible assumption) | (with_reducible refine Only.drewN ?_ _) | (with_reducible refine Only.drew ?_) | (with_reducible refine Only.alloc ?_ _) | (with_reducible refine Only.setCell ?_ ?_ _) | (with_reducible refine Only.then0 ?_ (by with_reducible assumption)) | (with_reducible refine Only.thenN ?_ (by with_reducible assumption) ?_) | (with_reducible refine Only.trans ?_ (by with_reducible assumption)) | (refine .inl ?_; first | rfl | (simp; done) | (simp [Ar.blk]; done)) | (refine .inr ?_; first | omega | (simp; done) | (simp; omega) | exact Only.size (by with_reducible assumption) | (refine Nat.le_trans (Only.size (by with_reducible assumption)) ?_; simp; done))))).out ⟨g, 0, none⟩ 0 0 [] (by simp [Act.eval, Act.put]) rfl (by intro j u hu; simp at hu) (by intro u hu; simp at hu) (by unfold maxLen; omega) (by omega) (Nat.le_trans hlow2 (hsz _ (show Only (fun _ => False) w2 _ from by repeat' (first | (with_reducible exact Only.refl _ _) | (with_reducible assumption) | (refine Only.of_none ?_; with_reducible assumption) | (with_reducible refine Only.drewN ?_ _) | (with_reducible refine Only.drew ?_) | (with_reducible refine Only.alloc ?_ _) | (with_reducible refine Only.setCell ?_ ?_ _) | (with_reducible refine Only.then0 ?_ (by with_reducible assumption)) | (with_reducible refine Only.thenN ?_ (by with_reducible assumption) ?_) | (with_reducible refine Only.trans ?_ (by with_reducible assumption)) | (refine .inl ?_; first | rfl | (simp; done) | (simp [Ar.blk]; done)) | (refine .inr ?_; first | omega | (simp; done) | (simp; omega) | exact Only.size (by with_reducible assumption) | (refine Nat.le_trans (Only.size (by with_reducible assumption)) ?_; simp; done))))).out) ?_; intro v3 w3 hown hgrow hat3; have hown0 := Lib.hid hown; obtain ⟨a3, cap3, rfl, hcap3⟩ := own_slice hown; clear hown; obtain ⟨d0, dhd, dhf, d2, du, do3, ds3⟩ := (CC _ (by repeat' (first | (with_reducible exact Only.refl _ _) | (with_reducible assumption) | (refine Only.of_none ?_; with_reducible assumption) | (with_reducible refine Only.drewN ?_ _) | (with_reducible refine Only.drew ?_) | (with_reducible refine Only.alloc ?_ _) | (with_reducible refine Only.setCell ?_ ?_ _) | (with_reducible refine Only.then0 ?_ (by with_reducible assumption)) | (with_reducible refine Only.thenN ?_ (by with_reducible assumption) ?_) | (with_reducible refine Only.trans ?_ (by with_reducible assumption)) | (refine .inl ?_; first | rfl | (simp; done) | (simp [Ar.blk]; done)) | (refine .inr ?_; first | omega | (simp; done) | (simp; omega) | exact Only.size (by with_reducible assumption) | (refine Nat.le_trans (Only.size (by with_reducible assumption)) ?_; simp; done)))) _ w3 hgrow rfl).out; have duc := du.cell; have duf := du.free)
    all_goals
      go_wp2_with fail
      go_returns
      exact FIN.out _ _ _ (by repeat' (first | (with_reducible exact Only.refl _ _) | (with_reducible assumption) | (refine Only.of_none ?_; with_reducible assumption) | (with_reducible refine Only.drewN ?_ _) | (with_reducible refine Only.drew ?_) | (with_reducible refine Only.alloc ?_ _) | (with_reducible refine Only.setCell ?_ ?_ _) | (with_reducible refine Only.then0 ?_ (by with_reducible assumption)) | (with_reducible refine Only.thenN ?_ (by with_reducible assumption) ?_) | (with_reducible refine Only.trans ?_ (by with_reducible assumption)) | (refine .inl ?_; first | rfl | (simp; done) | (simp [Ar.blk]; done)) | (refine .inr ?_; first | omega | (simp; done) | (simp; omega) | exact Only.size (by with_reducible assumption) | (refine Nat.le_trans (Only.size (by with_reducible assumption)) ?_; simp; done)))) hown0.out hgrow hat3
  · have hcc' : ¬ cap = p + 1 := fun e => hcc e.symm
    have b5 : len - (p + 1) = m := by have := HEL.out; omega
    go_upto_region 7 with fail
    go_region_law (refine step_append_own_at rfl (.tmp 47) (.tmp 57) 194 rfl base 221 i3 (.agg #[.int .i64 0, .int .i64 0]) 2 16 Try.underlying194 hi3 hz3 hs3 hb3 rfl (by decide) (.slice a1 p cap1) p xs1 (by simp [Act.eval, Act.put]) (OW _ (by repeat' (first | (with_reducible exact Only.refl _ _) | (with_reducible assumption) | (refine Only.of_none ?_; with_reducible assumption) | (with_reducible refine Only.drewN ?_ _) | (with_reducible refine Only.drew ?_) | (with_reducible refine Only.alloc ?_ _) | (with_reducible refine Only.setCell ?_ ?_ _) | (with_reducible refine Only.then0 ?_ (by with_reducible assumption)) | (with_reducible refine Only.thenN ?_ (by with_reducible assumption) ?_) | (with_reducible refine Only.trans ?_ (by with_reducible assumption)) | (refine .inl ?_; first | rfl | (simp; done) | (simp [Ar.blk]; done)) | (refine .inr ?_; first | omega | (simp; done) | (simp; omega) | exact Only.size (by with_reducible assumption) | (refine Nat.le_trans (Only.size (by with_reducible assumption)) ?_; simp; done))))).out ⟨g, (p + 1) * 2, none⟩ m (cap - (p + 1)) xs2 (by simp [Act.eval, Act.put]) HL2.out (fun j u hu => by rw [show (⟨g, (p + 1) * 2, none⟩ : Addr).add j = ⟨g, (p + 1) * 2 + j, none⟩ by unfold Addr.add; split <;> simp_all]; exact Only.cell (show Only (fun _ => False) w2 _ from by repeat' (first | (with_reducible exact Only.refl _ _) | (with_reducible assumption) | (refine Only.of_none ?_; with_reducible assumption) | (with_reducible refine Only.drewN ?_ _) | (with_reducible refine Only.drew ?_) | (with_reducible refine Only.alloc ?_ _) | (with_reducible refine Only.setCell ?_ ?_ _) | (with_reducible refine Only.then0 ?_ (by with_reducible assumption)) | (with_reducible refine Only.thenN ?_ (by with_reducible assumption) ?_) | (with_reducible refine Only.trans ?_ (by with_reducible assumption)) | (refine .inl ?_; first | rfl | (simp; done) | (simp [Ar.blk]; done)) | (refine .inr ?_; first | omega | (simp; done) | (simp; omega) | exact Only.size (by with_reducible assumption) | (refine Nat.le_trans (Only.size (by with_reducible assumption)) ?_; simp; done)))) (NN2.out j u hu) id) HO2.out (by unfold maxLen; omega) (by omega) (Nat.le_trans hlow2 (hsz _ (show Only (fun _ => False) w2 _ from by repeat' (first | (with_reducible exact Only.refl _ _) | (with_reducible assumption) | (refine Only.of_none ?_; with_reducible assumption) | (with_reducible refine Only.drewN ?_ _) | (with_reducible refine Only.drew ?_) | (with_reducible refine Only.alloc ?_ _) | (with_reducible refine Only.setCell ?_ ?_ _) | (with_reducible refine Only.then0 ?_ (by with_reducible assumption)) | (with_reducible refine Only.thenN ?_ (by with_reducible assumption) ?_) | (with_reducible refine Only.trans ?_ (by with_reducible assumption)) | (refine .inl ?_; first | rfl | (simp; done) | (simp [Ar.blk]; done)) | (refine .inr ?_; first | omega | (simp; done) | (simp; omega) | exact Only.size (by with_reducible assumption) | (refine Nat.le_trans (Only.size (by with_reducible assumption)) ?_; simp; done))))).out) ?_; intro v3 w3 hown hgrow hat3; have hown0 := Lib.hid hown; obtain ⟨a3, cap3, rfl, hcap3⟩ := own_slice hown; clear hown; obtain ⟨d0, dhd, dhf, d2, du, do3, ds3⟩ := (CC _ (by repeat' (first | (with_reducible exact Only.refl _ _) | (with_reducible assumption) | (refine Only.of_none ?_; with_reducible assumption) | (with_reducible refine Only.drewN ?_ _) | (with_reducible refine Only.drew ?_) | (with_reducible refine Only.alloc ?_ _) | (with_reducible refine Only.setCell ?_ ?_ _) | (with_reducible refine Only.then0 ?_ (by with_reducible assumption)) | (with_reducible refine Only.thenN ?_ (by with_reducible assumption) ?_) | (with_reducible refine Only.trans ?_ (by with_reducible assumption)) | (refine .inl ?_; first | rfl | (simp; done) | (simp [Ar.blk]; done)) | (refine .inr ?_; first | omega | (simp; done) | (simp; omega) | exact Only.size (by with_reducible assumption) | (refine Nat.le_trans (Only.size (by with_reducible assumption)) ?_; simp; done)))) _ w3 hgrow rfl).out; have duc := du.cell; have duf := du.free)
    all_goals
      go_wp2_with fail
      go_returns
      exact FIN.out _ _ _ (by repeat' (first | (with_reducible exact Only.refl _ _) | (with_reducible assumption) | (refine Only.of_none ?_; with_reducible assumption) | (with_reducible refine Only.drewN ?_ _) | (with_reducible refine Only.drew ?_) | (with_reducible refine Only.alloc ?_ _) | (with_reducible refine Only.setCell ?_ ?_ _) | (with_reducible refine Only.then0 ?_ (by with_reducible assumption)) | (with_reducible refine Only.thenN ?_ (by with_reducible assumption) ?_) | (with_reducible refine Only.trans ?_ (by with_reducible assumption)) | (refine .inl ?_; first | rfl | (simp; done) | (simp [Ar.blk]; done)) | (refine .inr ?_; first | omega | (simp; done) | (simp; omega) | exact Only.size (by with_reducible assumption) | (refine Nat.le_trans (Only.size (by with_reducible assumption)) ?_; simp; done)))) hown0.out hgrow hat3
end
end Go.Proofs.Ytiiflgihjnlmcaa
