/- SnapParts: the walk. No condition. -/
import Derived.Test.YtiiflgihjnlmcaaSnap8
import Derived.Laws.AppendOwn
import Derived.Laws.AppendOwnNone
namespace Go.Proofs.Ytiiflgihjnlmcaa
set_option linter.unusedVariables false
set_option linter.unusedSimpArgs false
open Go.RowKit

theorem Only.of_grown {w w' : World} {row : Option Nat} {S : Nat → Prop} (hg : w.grownBy w' row) (hr : ∀ r, row = some r → S r) : Only S w w' :=
  ⟨hg.os, hg.tape, hg.output, hg.size, fun i hi hs => hg.block i hi (fun e => hs (hr i e.symm))⟩
theorem Only.of_grown' {w w' : World} (hg : w.grownBy w' none) : Only (fun _ => False) w w' := Only.of_grown hg (fun r e => by cases e)
theorem own_cell {w : World} {base : Nat} {e : TypeId} {size : Nat} {v : Value} {n : Nat} {xs : List Value} (h : w.ownsRow base e size v n xs) (hn : 0 < n) : ∃ g cap, v = .slice (some ⟨g, 0, none⟩) n cap ∧ base ≤ g ∧ g < w.heap.size ∧ ∀ j u, xs[j]? = some u → Cell w g j u := by
  rcases h.2 with ⟨_, e⟩ | ⟨g, cap, cur, rfl, hb, hgg, h1, h2, h3, h4⟩
  · omega
  · refine ⟨g, cap, rfl, hb, (Array.getElem?_eq_some_iff.1 hgg).1, fun j u hu => ?_⟩
    have hc := h.cells rfl j u hu
    rw [show (⟨g, 0, none⟩ : Addr).add j = ⟨g, j, none⟩ by unfold Addr.add; split <;> simp_all] at hc
    exact ⟨hc, by simp [World.frozen?, hgg]⟩

theorem own_slice {w : World} {base : Nat} {e : TypeId} {size : Nat} {v : Value} {n : Nat} {xs : List Value} (h : w.ownsRow base e size v n xs) : ∃ a cap, v = .slice a n cap := by
  rcases h.2 with ⟨rfl, rfl⟩ | ⟨g, cap, cur, rfl, _⟩
  · exact ⟨_, _, rfl⟩
  · exact ⟨_, _, rfl⟩

def Six (W : World) (g : Nat) (c : Array Value) : Prop := ∀ k v, c[k]? = some v → W.cell? ⟨g, k, none⟩ = some v
theorem Six.only {W W' : World} {g : Nat} {c : Array Value} (h : Six W g c) (o : Only (fun _ => False) W W') : Six W' g c := fun k v hv => o.cell (h k v hv) id
theorem Six.new (W : World) (c : Array Value) (t : TypeId) : Six (W.alloc (.cells c t)) W.heap.size c := fun k v hv => (Cell.new hv).cell

theorem feeds_own {w : World} {base : Nat} {e : TypeId} {v : Value} {n : Nat} {xs : List (Int × Int × Int)} (h : w.ownsRow base e 3 v n (feedV xs)) (hn : xs.length = n) : ∃ A cap, v = .slice A n cap ∧ FeedsAt w A xs := by
  rcases Nat.eq_zero_or_pos n with h0 | h0
  · obtain ⟨A, cap, rfl⟩ := own_slice h
    have : xs = [] := List.eq_nil_of_length_eq_zero (by omega)
    subst this
    exact ⟨A, cap, rfl, fun i x hx => by simp at hx⟩
  · obtain ⟨g, cap, rfl, _, _, hc⟩ := own_cell h h0
    refine ⟨_, cap, rfl, fun i x hx => ?_⟩
    obtain ⟨h1, h2, h3⟩ := feedV_at hx
    exact ⟨g, 0, rfl, by rw [Nat.zero_add]; exact (hc _ _ h1).cell, by rw [Nat.zero_add]; exact (hc _ _ h2).cell, by rw [Nat.zero_add]; exact (hc _ _ h3).cell⟩

theorem fold_at (s : Sn) (a : Option Addr) (n cap : Nat) (xs : List (Int × Int × Int)) (hn : xs.length = n) (hk : ∀ x ∈ xs, FeedOk x) (hlen : n ≤ 4398046511104) (v : Value) (hv : foldV s (foldP s xs) = v) (w : World) (hx : FeedsAt w a xs) :
    Calls Try.prog 54 #[s.v, .slice a n cap] w fun e w' => e = .returned v ∧ Only (fun _ => False) w w' := by
  have h := s_fold s a n cap xs hn hk hlen w hx
  rw [hv] at h
  exact h

theorem Try.infoFeed : (Try.prog.info? 158).map (fun i => (i.zero, i.size, i.bytes)) = some (some (.agg #[.int .u8 0, .int .i64 0, .int .i64 0]), 3, 24) := by kernel_rfl

set_option maxHeartbeats 8000000 in
set_option maxRecDepth 100000 in
theorem snapParts_yes (w : World) (x0 x1 x2 x3 x4 x5 : Int) (a : Option Addr) (n1 c1 : Nat) (xs : List (Int × Int × Int)) (hn1 : xs.length = n1) (hk1 : ∀ x ∈ xs, FeedOk x) (hx : FeedsAt w a xs) (hnx : NewsIn w a n1 c1 xs)
    (b : Option Addr) (n2 c2 : Nat) (ys : List (Int × Int × Int)) (hn2 : ys.length = n2) (hk2 : ∀ x ∈ ys, FeedOk x) (hy : FeedsAt w b ys) (hny : NewsIn w b n2 c2 ys) (hb1 : n1 ≤ 5864062014634) (hb2 : n2 ≤ 5864062014634) :
    Calls Try.prog 11 #[.agg #[.int .i64 x0, .int .i64 x1, .int .i64 x2, .int .i64 x3, .int .i64 x4, .int .i64 x5], .slice a n1 c1, .slice b n2 c2] w fun e w' => e = .returned (.bool true) ∧ Only (fun _ => False) w w' := by
  have wk : IntKind.i64.wrap ((n1 : Int) + (n2 : Int)) = (n1 : Int) + (n2 : Int) := by rw [IntKind.wrap_i64]; omega
  have S0 := Six.new w #[.int .i64 x0, .int .i64 x1, .int .i64 x2, .int .i64 x3, .int .i64 x4, .int .i64 x5] 70
  have o0 := (Only.refl (fun _ => False) w).alloc (.cells #[.int .i64 x0, .int .i64 x1, .int .i64 x2, .int .i64 x3, .int .i64 x4, .int .i64 x5] 70)
  go_enter Try.func11, Try.ntmps11
  go_wp2_with fail
  refine (snap_works _).mono ?_
  rintro e w1 ⟨rfl, o1⟩
  have p1 := o0.trans o1
  have S1 := S0.only o1
  clear S0 o0 o1
  by_cases hbig : 67108863 < n1 + n2
  · have t1 : decide ((67108863 : Int) < (n1 : Int) + (n2 : Int)) = true := by simp; omega
    clear S1
    go_wp2_with fail
    go_returns
    exact ⟨rfl, p1⟩
  · have t1 : decide ((67108863 : Int) < (n1 : Int) + (n2 : Int)) = false := by simp; omega
    have HX := Lib.hid hx
    have HY := Lib.hid hy
    have HN1 := Lib.hid hn1
    have HN2 := Lib.hid hn2
    have NX := Lib.hid (hnx.only p1)
    have NY := Lib.hid (hny.only p1)
    have HS1 := Lib.hid S1
    have P1 := Lib.hid p1
    clear hx hy hnx hny S1 p1 hn1 hn2
    obtain ⟨i3, hi3, hz3, hs3, hb3⟩ := info_parts Try.infoFeed
    go_upto_region 5 with fail
    go_cut [8] from 28 to 30 (fun s8 wc => wc.ownsRow w1.heap.size 158 3 s8 n1 (feedV xs) ∧ Only (fun _ => False) w1 wc)
    case first =>
      rcases NX.out with ⟨rfl, h2, h3⟩ | ⟨ad, rfl, hc⟩
      · have h4 : xs = [] := List.eq_nil_of_length_eq_zero (by rw [HN1.out]; exact h2)
        have H2 := Lib.hid h2
        have H3 := Lib.hid h3
        clear h2 h3
        go_wp2_with ((at_builtin; refine wpList_append_own_none rfl (.tmp 28) (.tmp 29) 72 rfl w1.heap.size 158 i3 3 Try.underlying72 hi3 _ _ _ rfl (World.ownsRow_nil _ _ _ _) (by show Value.slice none n1 c1 = _; rw [H2.out, H3.out]) ?_))
        go_meet
        exact ⟨by rw [H2.out, h4]; exact World.ownsRow_nil _ _ _ _, Only.refl _ _⟩
      · go_wp2_with ((at_builtin; refine wpList_append_own _ rfl (.tmp 28) (.tmp 29) 72 rfl w1.heap.size 158 i3 (.agg #[.int .u8 0, .int .i64 0, .int .i64 0]) 3 24 Try.underlying72 hi3 hz3 hs3 hb3 rfl (by decide) _ _ _ rfl (World.ownsRow_nil _ _ _ _) ad n1 c1 (feedV xs) rfl (by rw [feedV_length, HN1.out]) hc (feedV_one xs) (by unfold maxLen; omega) (by omega) (Nat.le_refl _) ?_; intro v1 w2 hown hgrow hnil))
        go_meet
        exact ⟨by simpa using hown, Only.of_grown' hgrow⟩
    case rest =>
      obtain ⟨hown, oc⟩ := hcut
      have OWN := Lib.hid hown
      clear hown
      go_upto_region 6 with fail
      go_cut [8] from 31 to 33 (fun s8 w2 => w2.ownsRow w1.heap.size 158 3 s8 (n1 + n2) (feedV xs ++ feedV ys) ∧ Only (fun _ => False) w1 w2)
      case first =>
        rcases NY.out.only oc with ⟨rfl, h2, h3⟩ | ⟨ad, rfl, hc⟩
        · have h4 : ys = [] := List.eq_nil_of_length_eq_zero (by rw [HN2.out]; exact h2)
          have H2 := Lib.hid h2
          have H3 := Lib.hid h3
          clear h2 h3
          go_wp2_with ((at_builtin; refine wpList_append_own_none rfl (.tmp 31) (.tmp 32) 72 rfl w1.heap.size 158 i3 3 Try.underlying72 hi3 _ _ _ rfl OWN.out (by show Value.slice none n2 c2 = _; rw [H2.out, H3.out]) ?_))
          go_meet
          exact ⟨by rw [H2.out, h4]; simpa [feedV] using OWN.out, oc⟩
        · go_wp2_with ((at_builtin; refine wpList_append_own _ rfl (.tmp 31) (.tmp 32) 72 rfl w1.heap.size 158 i3 (.agg #[.int .u8 0, .int .i64 0, .int .i64 0]) 3 24 Try.underlying72 hi3 hz3 hs3 hb3 rfl (by decide) _ _ _ rfl OWN.out ad n2 c2 (feedV ys) rfl (by rw [feedV_length, HN2.out]) hc (feedV_one ys) (by unfold maxLen; omega) (by omega) oc.size ?_; intro v1 w2 hown hgrow hnil))
          go_meet
          exact ⟨hown, oc.trans' (Only.of_grown hgrow (fun r e => (OWN.out.lt r e).1)) (fun i hi h => by omega)⟩
      case rest =>
        obtain ⟨hown, oc2⟩ := hcut
        rw [← feedV_append] at hown
        have hn3 : (xs ++ ys).length = n1 + n2 := by rw [List.length_append, HN1.out, HN2.out]
        obtain ⟨A, cap, rfl, hF⟩ := feeds_own hown hn3
        have hk3 : ∀ x ∈ xs ++ ys, FeedOk x := fun x hx => (List.mem_append.1 hx).elim (hk1 x) (hk2 x)
        have P2 := P1.out.trans oc2
        have SA := HS1.out.only oc2
        clear oc oc2 hown OWN NX NY HS1 P1
        clear hi3 hz3 hs3 hb3
        have e0 : foldP ⟨x0, x1, x2, x3, x4, x5⟩ (xs ++ ys) = (foldP ⟨x0, x1, x2, x3, x4, x5⟩ xs).bind fun u => foldP u ys := foldP_append _ _ _
        have HA := fun v hv W hW => Lib.hid (fold_at ⟨x0, x1, x2, x3, x4, x5⟩ A (n1 + n2) cap (xs ++ ys) hn3 hk3 (by omega) v hv W hW)
        have HB := fun v hv W hW => Lib.hid (fold_at ⟨x0, x1, x2, x3, x4, x5⟩ a n1 c1 xs HN1.out hk1 (by omega) v hv W hW)
        simp only [Sn.v] at HA HB
        have H11 := Lib.hid hF
        clear hF hn3 hk3
        cases h2 : foldP ⟨x0, x1, x2, x3, x4, x5⟩ xs with
        | none =>
          have v1 : foldV ⟨x0, x1, x2, x3, x4, x5⟩ (foldP ⟨x0, x1, x2, x3, x4, x5⟩ (xs ++ ys)) = .tuple #[.agg #[.int .i64 0, .int .i64 0, .int .i64 0, .int .i64 0, .int .i64 0, .int .i64 0], .int .u16 0, .int .i64 100] := by rw [e0, h2]; rfl
          have v2 : foldV ⟨x0, x1, x2, x3, x4, x5⟩ (foldP ⟨x0, x1, x2, x3, x4, x5⟩ xs) = .tuple #[.agg #[.int .i64 0, .int .i64 0, .int .i64 0, .int .i64 0, .int .i64 0, .int .i64 0], .int .u16 0, .int .i64 100] := by rw [h2]; rfl
          have HA1 := fun W hW => HA _ v1 W hW
          have HB1 := fun W hW => HB _ v2 W hW
          clear HA HB v1 v2 e0 h2
          have ac0 := SA 0 _ rfl; have ac1 := SA 1 _ rfl; have ac2 := SA 2 _ rfl; have ac3 := SA 3 _ rfl; have ac4 := SA 4 _ rfl; have ac5 := SA 5 _ rfl; have acz := cell_lt ac0
          go_wp2_with fail
          refine (HA1 _ H11.out).out.mono ?_
          rintro e wA ⟨rfl, oA⟩
          clear ac0 ac1 ac2 ac3 ac4 ac5 acz
          have SA1 := SA.only oA
          have PA := P2.trans oA
          clear SA P2 oA HA1
          have ac0 := SA1 0 _ rfl; have ac1 := SA1 1 _ rfl; have ac2 := SA1 2 _ rfl; have ac3 := SA1 3 _ rfl; have ac4 := SA1 4 _ rfl; have ac5 := SA1 5 _ rfl; have acz := cell_lt ac0
          go_wp2_with fail
          refine (HB1 _ (HX.out.only (PA.alloc _) (fun _ _ => id))).out.mono ?_
          rintro e wB ⟨rfl, oB⟩
          clear ac0 ac1 ac2 ac3 ac4 ac5 acz
          have SX := (Six.new wA #[.int .i64 0, .int .i64 0, .int .i64 0, .int .i64 0, .int .i64 0, .int .i64 0] 70).only oB
          have PB := (PA.alloc (.cells #[.int .i64 0, .int .i64 0, .int .i64 0, .int .i64 0, .int .i64 0, .int .i64 0] 70)).trans oB
          clear SA1 PA oB HB1
          have bc0 := SX 0 _ rfl; have bc1 := SX 1 _ rfl; have bc2 := SX 2 _ rfl; have bc3 := SX 3 _ rfl; have bc4 := SX 4 _ rfl; have bc5 := SX 5 _ rfl; have bcz := cell_lt bc0
          go_wp2_with fail
          go_returns
          exact ⟨by rfl, by repeat' (first | (with_reducible exact Only.refl _ _) | (with_reducible assumption) | (refine Only.of_none ?_; with_reducible assumption) | (with_reducible refine Only.drewN ?_ _) | (with_reducible refine Only.drew ?_) | (with_reducible refine Only.alloc ?_ _) | (with_reducible refine Only.setCell ?_ ?_ _) | (with_reducible refine Only.then0 ?_ (by with_reducible assumption)) | (with_reducible refine Only.thenN ?_ (by with_reducible assumption) ?_) | (with_reducible refine Only.trans ?_ (by with_reducible assumption)) | (refine .inl ?_; first | rfl | (simp; done) | (simp [Ar.blk]; done)) | (refine .inr ?_; first | omega | (simp; done) | (simp; omega) | exact Only.size (by with_reducible assumption) | (refine Nat.le_trans (Only.size (by with_reducible assumption)) ?_; simp; done)))⟩
        | some u =>
          have hu : foldP ⟨x0, x1, x2, x3, x4, x5⟩ xs = some u := h2
          obtain ⟨y0, y1, y2, y3, y4, y5⟩ := u
          have e1 : foldP ⟨x0, x1, x2, x3, x4, x5⟩ (xs ++ ys) = foldP ⟨y0, y1, y2, y3, y4, y5⟩ ys := by rw [e0, h2]; rfl
          obtain ⟨nn, hnn⟩ : ∃ nn, nn = Sn.mask ⟨x0, x1, x2, x3, x4, x5⟩ ⟨y0, y1, y2, y3, y4, y5⟩ := ⟨_, rfl⟩
          have v2 : foldV ⟨x0, x1, x2, x3, x4, x5⟩ (foldP ⟨x0, x1, x2, x3, x4, x5⟩ xs) = .tuple #[.agg #[.int .i64 y0, .int .i64 y1, .int .i64 y2, .int .i64 y3, .int .i64 y4, .int .i64 y5], .int .u16 (nn : Nat), .int .i64 0] := by rw [h2, hnn]; rfl
          have HB1 := fun W hW => HB _ v2 W hW
          have HC := fun v hv W hW => Lib.hid (fold_at ⟨y0, y1, y2, y3, y4, y5⟩ b n2 c2 ys HN2.out hk2 (by omega) v hv W hW)
          simp only [Sn.v] at HC
          have HNN := Lib.hid hnn
          clear HB v2 e0 h2 hu hnn
          cases h3 : foldP ⟨y0, y1, y2, y3, y4, y5⟩ ys with
          | none =>
            have v1 : foldV ⟨x0, x1, x2, x3, x4, x5⟩ (foldP ⟨x0, x1, x2, x3, x4, x5⟩ (xs ++ ys)) = .tuple #[.agg #[.int .i64 0, .int .i64 0, .int .i64 0, .int .i64 0, .int .i64 0, .int .i64 0], .int .u16 0, .int .i64 100] := by rw [e1, h3]; rfl
            have v3 : foldV ⟨y0, y1, y2, y3, y4, y5⟩ (foldP ⟨y0, y1, y2, y3, y4, y5⟩ ys) = .tuple #[.agg #[.int .i64 0, .int .i64 0, .int .i64 0, .int .i64 0, .int .i64 0, .int .i64 0], .int .u16 0, .int .i64 100] := by rw [h3]; rfl
            have HA1 := fun W hW => HA _ v1 W hW
            have HC1 := fun W hW => HC _ v3 W hW
            obtain ⟨dd, hdd⟩ : ∃ dd, dd = maskN (sev x0 x1 x2 x3 x4 x5) (sev 0 0 0 0 0 0) 7 := ⟨_, rfl⟩
            have HD := fun W => Lib.hid (s_diff x0 x1 x2 x3 x4 x5 0 0 0 0 0 0 W)
            have hd2 : maskN (sev x0 x1 x2 x3 x4 x5) (sev 0 0 0 0 0 0) 7 = dd := hdd.symm
            simp only [hd2] at HD
            have HK := fun W => Lib.hid (s_check 0 0 0 0 0 0 W)
            have hk0 : (if snOk 0 0 0 0 0 0 = true then (0 : Int) else 100) = 0 := by decide
            simp only [hk0] at HK
            clear HA HC v1 v3 e1 h3 hdd hd2 hk0
            have ac0 := SA 0 _ rfl; have ac1 := SA 1 _ rfl; have ac2 := SA 2 _ rfl; have ac3 := SA 3 _ rfl; have ac4 := SA 4 _ rfl; have ac5 := SA 5 _ rfl; have acz := cell_lt ac0
            go_wp2_with fail
            refine (HA1 _ H11.out).out.mono ?_
            rintro e wA ⟨rfl, oA⟩
            clear ac0 ac1 ac2 ac3 ac4 ac5 acz
            have SA1 := SA.only oA
            have PA := P2.trans oA
            clear SA P2 oA HA1
            have ac0 := SA1 0 _ rfl; have ac1 := SA1 1 _ rfl; have ac2 := SA1 2 _ rfl; have ac3 := SA1 3 _ rfl; have ac4 := SA1 4 _ rfl; have ac5 := SA1 5 _ rfl; have acz := cell_lt ac0
            go_wp2_with fail
            refine (HB1 _ (HX.out.only (PA.alloc _) (fun _ _ => id))).out.mono ?_
            rintro e wB ⟨rfl, oB⟩
            clear ac0 ac1 ac2 ac3 ac4 ac5 acz
            have SX := (Six.new wA #[.int .i64 0, .int .i64 0, .int .i64 0, .int .i64 0, .int .i64 0, .int .i64 0] 70).only oB
            have SA2 := (SA1.only ((Only.refl _ wA).alloc (.cells #[.int .i64 0, .int .i64 0, .int .i64 0, .int .i64 0, .int .i64 0, .int .i64 0] 70))).only oB
            have PB := (PA.alloc (.cells #[.int .i64 0, .int .i64 0, .int .i64 0, .int .i64 0, .int .i64 0, .int .i64 0] 70)).trans oB
            clear SA1 PA oB HB1
            go_wp2_with fail
            refine (HC1 _ (HY.out.only (PB.alloc _) (fun _ _ => id))).out.mono ?_
            rintro e wC ⟨rfl, oC⟩
            have SX2 := (SX.only ((Only.refl _ wB).alloc (.cells #[.int .i64 y0, .int .i64 y1, .int .i64 y2, .int .i64 y3, .int .i64 y4, .int .i64 y5] 70))).only oC
            have SA3 := (SA2.only ((Only.refl _ wB).alloc (.cells #[.int .i64 y0, .int .i64 y1, .int .i64 y2, .int .i64 y3, .int .i64 y4, .int .i64 y5] 70))).only oC
            have PC := (PB.alloc (.cells #[.int .i64 y0, .int .i64 y1, .int .i64 y2, .int .i64 y3, .int .i64 y4, .int .i64 y5] 70)).trans oC
            clear SX SA2 PB oC HC1
            have ac0 := SA3 0 _ rfl; have ac1 := SA3 1 _ rfl; have ac2 := SA3 2 _ rfl; have ac3 := SA3 3 _ rfl; have ac4 := SA3 4 _ rfl; have ac5 := SA3 5 _ rfl; have acz := cell_lt ac0
            have bc0 := SX2 0 _ rfl; have bc1 := SX2 1 _ rfl; have bc2 := SX2 2 _ rfl; have bc3 := SX2 3 _ rfl; have bc4 := SX2 4 _ rfl; have bc5 := SX2 5 _ rfl; have bcz := cell_lt bc0
            go_wp2_with fail
            refine (HD _).out.mono ?_
            rintro e wD ⟨rfl, oD⟩
            clear ac0 ac1 ac2 ac3 ac4 ac5 acz
            clear bc0 bc1 bc2 bc3 bc4 bc5 bcz
            have SZ := (Six.new wC #[.int .i64 0, .int .i64 0, .int .i64 0, .int .i64 0, .int .i64 0, .int .i64 0] 70).only oD
            have SX3 := (SX2.only ((Only.refl _ wC).alloc (.cells #[.int .i64 0, .int .i64 0, .int .i64 0, .int .i64 0, .int .i64 0, .int .i64 0] 70))).only oD
            have PD := (PC.alloc (.cells #[.int .i64 0, .int .i64 0, .int .i64 0, .int .i64 0, .int .i64 0, .int .i64 0] 70)).trans oD
            clear SX2 SA3 PC oD HD
            have cc0 := SZ 0 _ rfl; have cc1 := SZ 1 _ rfl; have cc2 := SZ 2 _ rfl; have cc3 := SZ 3 _ rfl; have cc4 := SZ 4 _ rfl; have cc5 := SZ 5 _ rfl; have ccz := cell_lt cc0
            go_wp2_with fail
            refine (HK _).out.mono ?_
            rintro e wE ⟨rfl, oE⟩
            clear cc0 cc1 cc2 cc3 cc4 cc5 ccz
            have SZ2 := SZ.only oE
            have SX4 := SX3.only oE
            have PE := PD.trans oE
            clear SZ SX3 PD oE HK
            have cc0 := SZ2 0 _ rfl; have cc1 := SZ2 1 _ rfl; have cc2 := SZ2 2 _ rfl; have cc3 := SZ2 3 _ rfl; have cc4 := SZ2 4 _ rfl; have cc5 := SZ2 5 _ rfl; have ccz := cell_lt cc0
            have bc0 := SX4 0 _ rfl; have bc1 := SX4 1 _ rfl; have bc2 := SX4 2 _ rfl; have bc3 := SX4 3 _ rfl; have bc4 := SX4 4 _ rfl; have bc5 := SX4 5 _ rfl; have bcz := cell_lt bc0
            go_wp2_with fail
            go_returns
            exact ⟨by rfl, by repeat' (first | (with_reducible exact Only.refl _ _) | (with_reducible assumption) | (refine Only.of_none ?_; with_reducible assumption) | (with_reducible refine Only.drewN ?_ _) | (with_reducible refine Only.drew ?_) | (with_reducible refine Only.alloc ?_ _) | (with_reducible refine Only.setCell ?_ ?_ _) | (with_reducible refine Only.then0 ?_ (by with_reducible assumption)) | (with_reducible refine Only.thenN ?_ (by with_reducible assumption) ?_) | (with_reducible refine Only.trans ?_ (by with_reducible assumption)) | (refine .inl ?_; first | rfl | (simp; done) | (simp [Ar.blk]; done)) | (refine .inr ?_; first | omega | (simp; done) | (simp; omega) | exact Only.size (by with_reducible assumption) | (refine Nat.le_trans (Only.size (by with_reducible assumption)) ?_; simp; done)))⟩
          | some r =>
            have hrok := foldP_ok h3
            obtain ⟨z0, z1, z2, z3, z4, z5⟩ := r
            obtain ⟨mm, hmm⟩ : ∃ mm, mm = Sn.mask ⟨x0, x1, x2, x3, x4, x5⟩ ⟨z0, z1, z2, z3, z4, z5⟩ := ⟨_, rfl⟩
            obtain ⟨kk, hkk⟩ : ∃ kk, kk = Sn.mask ⟨y0, y1, y2, y3, y4, y5⟩ ⟨z0, z1, z2, z3, z4, z5⟩ := ⟨_, rfl⟩
            have hmask := mask_parts ⟨x0, x1, x2, x3, x4, x5⟩ ⟨y0, y1, y2, y3, y4, y5⟩ ⟨z0, z1, z2, z3, z4, z5⟩
            rw [← hmm, ← HNN.out, ← hkk] at hmask
            have v1 : foldV ⟨x0, x1, x2, x3, x4, x5⟩ (foldP ⟨x0, x1, x2, x3, x4, x5⟩ (xs ++ ys)) = .tuple #[.agg #[.int .i64 z0, .int .i64 z1, .int .i64 z2, .int .i64 z3, .int .i64 z4, .int .i64 z5], .int .u16 (mm : Nat), .int .i64 0] := by rw [e1, h3, hmm]; rfl
            have v3 : foldV ⟨y0, y1, y2, y3, y4, y5⟩ (foldP ⟨y0, y1, y2, y3, y4, y5⟩ ys) = .tuple #[.agg #[.int .i64 z0, .int .i64 z1, .int .i64 z2, .int .i64 z3, .int .i64 z4, .int .i64 z5], .int .u16 (kk : Nat), .int .i64 0] := by rw [h3, hkk]; rfl
            have HA1 := fun W hW => HA _ v1 W hW
            have HC1 := fun W hW => HC _ v3 W hW
            have HD := fun W => Lib.hid (s_diff x0 x1 x2 x3 x4 x5 z0 z1 z2 z3 z4 z5 W)
            have hd2 : maskN (sev x0 x1 x2 x3 x4 x5) (sev z0 z1 z2 z3 z4 z5) 7 = mm := hmm.symm
            simp only [hd2] at HD
            have HK := fun W => Lib.hid (s_check z0 z1 z2 z3 z4 z5 W)
            have hk0 : (if snOk z0 z1 z2 z3 z4 z5 = true then (0 : Int) else 100) = 0 := if_pos hrok
            simp only [hk0] at HK
            clear HA HC v1 v3 e1 h3 hmm hkk hd2 hk0 hrok HNN
            have ac0 := SA 0 _ rfl; have ac1 := SA 1 _ rfl; have ac2 := SA 2 _ rfl; have ac3 := SA 3 _ rfl; have ac4 := SA 4 _ rfl; have ac5 := SA 5 _ rfl; have acz := cell_lt ac0
            go_wp2_with fail
            refine (HA1 _ H11.out).out.mono ?_
            rintro e wA ⟨rfl, oA⟩
            clear ac0 ac1 ac2 ac3 ac4 ac5 acz
            have SA1 := SA.only oA
            have PA := P2.trans oA
            clear SA P2 oA HA1
            have ac0 := SA1 0 _ rfl; have ac1 := SA1 1 _ rfl; have ac2 := SA1 2 _ rfl; have ac3 := SA1 3 _ rfl; have ac4 := SA1 4 _ rfl; have ac5 := SA1 5 _ rfl; have acz := cell_lt ac0
            go_wp2_with fail
            refine (HB1 _ (HX.out.only (PA.alloc _) (fun _ _ => id))).out.mono ?_
            rintro e wB ⟨rfl, oB⟩
            clear ac0 ac1 ac2 ac3 ac4 ac5 acz
            have SX := (Six.new wA #[.int .i64 z0, .int .i64 z1, .int .i64 z2, .int .i64 z3, .int .i64 z4, .int .i64 z5] 70).only oB
            have SA2 := (SA1.only ((Only.refl _ wA).alloc (.cells #[.int .i64 z0, .int .i64 z1, .int .i64 z2, .int .i64 z3, .int .i64 z4, .int .i64 z5] 70))).only oB
            have PB := (PA.alloc (.cells #[.int .i64 z0, .int .i64 z1, .int .i64 z2, .int .i64 z3, .int .i64 z4, .int .i64 z5] 70)).trans oB
            clear SA1 PA oB HB1
            go_wp2_with fail
            refine (HC1 _ (HY.out.only (PB.alloc _) (fun _ _ => id))).out.mono ?_
            rintro e wC ⟨rfl, oC⟩
            have SX2 := (SX.only ((Only.refl _ wB).alloc (.cells #[.int .i64 y0, .int .i64 y1, .int .i64 y2, .int .i64 y3, .int .i64 y4, .int .i64 y5] 70))).only oC
            have SA3 := (SA2.only ((Only.refl _ wB).alloc (.cells #[.int .i64 y0, .int .i64 y1, .int .i64 y2, .int .i64 y3, .int .i64 y4, .int .i64 y5] 70))).only oC
            have PC := (PB.alloc (.cells #[.int .i64 y0, .int .i64 y1, .int .i64 y2, .int .i64 y3, .int .i64 y4, .int .i64 y5] 70)).trans oC
            clear SX SA2 PB oC HC1
            have ac0 := SA3 0 _ rfl; have ac1 := SA3 1 _ rfl; have ac2 := SA3 2 _ rfl; have ac3 := SA3 3 _ rfl; have ac4 := SA3 4 _ rfl; have ac5 := SA3 5 _ rfl; have acz := cell_lt ac0
            have bc0 := SX2 0 _ rfl; have bc1 := SX2 1 _ rfl; have bc2 := SX2 2 _ rfl; have bc3 := SX2 3 _ rfl; have bc4 := SX2 4 _ rfl; have bc5 := SX2 5 _ rfl; have bcz := cell_lt bc0
            go_wp2_with fail
            refine (HD _).out.mono ?_
            rintro e wD ⟨rfl, oD⟩
            clear ac0 ac1 ac2 ac3 ac4 ac5 acz
            clear bc0 bc1 bc2 bc3 bc4 bc5 bcz
            have SZ := (Six.new wC #[.int .i64 z0, .int .i64 z1, .int .i64 z2, .int .i64 z3, .int .i64 z4, .int .i64 z5] 70).only oD
            have SX3 := (SX2.only ((Only.refl _ wC).alloc (.cells #[.int .i64 z0, .int .i64 z1, .int .i64 z2, .int .i64 z3, .int .i64 z4, .int .i64 z5] 70))).only oD
            have PD := (PC.alloc (.cells #[.int .i64 z0, .int .i64 z1, .int .i64 z2, .int .i64 z3, .int .i64 z4, .int .i64 z5] 70)).trans oD
            clear SX2 SA3 PC oD HD
            have cc0 := SZ 0 _ rfl; have cc1 := SZ 1 _ rfl; have cc2 := SZ 2 _ rfl; have cc3 := SZ 3 _ rfl; have cc4 := SZ 4 _ rfl; have cc5 := SZ 5 _ rfl; have ccz := cell_lt cc0
            go_wp2_with fail
            refine (HK _).out.mono ?_
            rintro e wE ⟨rfl, oE⟩
            clear cc0 cc1 cc2 cc3 cc4 cc5 ccz
            have SZ2 := SZ.only oE
            have SX4 := SX3.only oE
            have PE := PD.trans oE
            clear SZ SX3 PD oE HK
            have cc0 := SZ2 0 _ rfl; have cc1 := SZ2 1 _ rfl; have cc2 := SZ2 2 _ rfl; have cc3 := SZ2 3 _ rfl; have cc4 := SZ2 4 _ rfl; have cc5 := SZ2 5 _ rfl; have ccz := cell_lt cc0
            have bc0 := SX4 0 _ rfl; have bc1 := SX4 1 _ rfl; have bc2 := SX4 2 _ rfl; have bc3 := SX4 3 _ rfl; have bc4 := SX4 4 _ rfl; have bc5 := SX4 5 _ rfl; have bcz := cell_lt bc0
            go_wp2_with fail
            go_returns
            exact ⟨by rfl, by repeat' (first | (with_reducible exact Only.refl _ _) | (with_reducible assumption) | (refine Only.of_none ?_; with_reducible assumption) | (with_reducible refine Only.drewN ?_ _) | (with_reducible refine Only.drew ?_) | (with_reducible refine Only.alloc ?_ _) | (with_reducible refine Only.setCell ?_ ?_ _) | (with_reducible refine Only.then0 ?_ (by with_reducible assumption)) | (with_reducible refine Only.thenN ?_ (by with_reducible assumption) ?_) | (with_reducible refine Only.trans ?_ (by with_reducible assumption)) | (refine .inl ?_; first | rfl | (simp; done) | (simp [Ar.blk]; done)) | (refine .inr ?_; first | omega | (simp; done) | (simp; omega) | exact Only.size (by with_reducible assumption) | (refine Nat.le_trans (Only.size (by with_reducible assumption)) ?_; simp; done)))⟩

theorem snapParts_walk (w : World) (c0 : List Value) (f0 : Fits [.i .i64, .i .i64, .i .i64, .i .i64, .i .i64, .i .i64] c0)
    (a : Option Addr) (len cap : Nat) (rows : List (List Value)) (hs : SliceIn w a len cap [.i .u8, .i .i64, .i .i64] rows) (hlen : len * 24 ≤ 140737488351232)
    (a2 : Option Addr) (len2 cap2 : Nat) (rows2 : List (List Value)) (hs2 : SliceIn w a2 len2 cap2 [.i .u8, .i .i64, .i .i64] rows2) (hlen2 : len2 * 24 ≤ 140737488351232) :
    Calls Try.prog 11 #[.agg c0.toArray, .slice a len cap, .slice a2 len2 cap2] w fun e w' => e = .returned (.bool true) ∧ Below w.heap.size w w' := by
  obtain ⟨x0, _, rfl, _, f0⟩ := fits_i f0
  obtain ⟨x1, _, rfl, _, f0⟩ := fits_i f0
  obtain ⟨x2, _, rfl, _, f0⟩ := fits_i f0
  obtain ⟨x3, _, rfl, _, f0⟩ := fits_i f0
  obtain ⟨x4, _, rfl, _, f0⟩ := fits_i f0
  obtain ⟨x5, _, rfl, _, f0⟩ := fits_i f0
  obtain rfl := fits_nil f0
  obtain ⟨xs, h1, h2, h3, h4⟩ := feeds_in hs
  obtain ⟨ys, k1, k2, k3, k4⟩ := feeds_in hs2
  exact (snapParts_yes w x0 x1 x2 x3 x4 x5 a len cap xs h1 h2 h3 h4 a2 len2 cap2 ys k1 k2 k3 k4 (by omega) (by omega)).mono fun _ _ ⟨he, ho⟩ => ⟨he, ho.below⟩
end Go.Proofs.Ytiiflgihjnlmcaa
