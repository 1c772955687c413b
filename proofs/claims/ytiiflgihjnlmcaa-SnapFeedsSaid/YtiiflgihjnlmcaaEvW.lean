/- SnapFeeds: the walk. No condition. -/
import Derived.Test.YtiiflgihjnlmcaaEv3
import Derived.Test.YtiiflgihjnlmcaaEv4
import Derived.Test.YtiiflgihjnlmcaaOwnB
namespace Go.Proofs.Ytiiflgihjnlmcaa
set_option linter.unusedVariables false
set_option linter.unusedSimpArgs false
open Go.RowKit Go.Proofs.YtiiflgihjnlmcaaW.PrintWords Go.Proofs.YtiiflgihjnlmcaaW.PrintLast Go.Proofs.YtiiflgihjnlmcaaW.PrintMore Go.Proofs.Ytiiflgihjnlmcaa.PSnapFeeds

def Six (W : World) (g : Nat) (c : Array Value) : Prop := ∀ k v, c[k]? = some v → W.cell? ⟨g, k, none⟩ = some v
theorem Six.only {W W' : World} {g : Nat} {c : Array Value} (h : Six W g c) (o : Only (fun _ => False) W W') : Six W' g c := fun k v hv => o.cell (h k v hv) id
theorem Six.new (W : World) (c : Array Value) (t : TypeId) : Six (W.alloc (.cells c t)) W.heap.size c := fun k v hv => (Cell.new hv).cell

/-- Feeds that are one's own. -/
def FdNew (w : World) (r : List S158) (R : Nat) (e : Ending) (w' : World) : Prop :=
  ∃ A cc, e = .returned (.slice A R cc) ∧ (∃ inner, w'.ownsRow w.heap.size 158 3 (.slice A R cc) R inner) ∧ Kd.C k158 w' A R r ∧ R ≤ cc ∧ Only (fun _ => False) w w'
theorem fd_new {w w' : World} {r : List S158} {v : Value} (hR : Kd.R k158 158 w' w.heap.size (fun _ => True) v r) (hB : Below w.heap.size w w') : FdNew w r r.length (.returned v) w' := by
  obtain ⟨A, c, rfl, hc, hC⟩ := Kd.R_reads hR
  obtain ⟨_, inner, ho, _⟩ := hR
  exact ⟨A, c, rfl, ⟨inner, ho⟩, hC, hc, Only.of_below hB⟩

section
variable (x0 x1 x2 x3 y0 y1 y2 y3 c : Int) {w : World} {a : Option Addr} {n cap : Nat} {xs : List S161}
theorem rc_snap (hx : EvIn w a n cap (evV xs)) (hn : xs.length = n) (hcap : n ≤ cap) (hN : n ≤ 33554431) :
    Calls Try.prog 58 #[.agg #[.int .i64 x0, .int .i64 x1, .int .i64 x2, .int .i64 x3], .agg #[.int .i64 y0, .int .i64 y1, .int .i64 y2, .int .i64 y3], .int .i64 c, .slice a n cap] w (FdNew w (fdP x0 x1 y0 y1 c xs) (fdP x0 x1 y0 y1 c xs).length) := by
  have h := snap_Feeds.calls (xs.length + 6) x0 x1 x2 x3 y0 y1 y2 y3 c a cap xs _ w (by rw [hn]; exact hx.reads hn (by omega)) (by omega) (snap_fd c xs x0 x1 x2 x3 y0 y1 y2 y3 (by omega))
  rw [hn] at h
  exact h.mono fun e w' ⟨v, he, hR, hB⟩ => he ▸ fd_new hR hB
theorem rc_ref (hx : EvIn w a n cap (evV xs)) (hn : xs.length = n) (hcap : n ≤ cap) (hN : n ≤ 33554431) :
    Calls Try.prog 60 #[.agg #[.int .i64 x0, .int .i64 x1, .int .i64 x2, .int .i64 x3], .agg #[.int .i64 y0, .int .i64 y1, .int .i64 y2, .int .i64 y3], .int .i64 c, .slice a n cap] w (FdNew w (fdP x0 x1 y0 y1 c xs) (fdP x0 x1 y0 y1 c xs).length) := by
  have h := tripwireref10_Feeds.calls (xs.length + 6) x0 x1 x2 x3 y0 y1 y2 y3 c a cap xs _ w (by rw [hn]; exact hx.reads hn (by omega)) (by omega) (ref_fd c xs x0 x1 x2 x3 y0 y1 y2 y3 (by omega))
  rw [hn] at h
  exact h.mono fun e w' ⟨v, he, hR, hB⟩ => he ▸ fd_new hR hB
end
theorem rc_same {w : World} {A B : Option Addr} {ca cb R : Nat} {r : List S158} (hr : R = r.length) (hR : R ≤ 67108866) (h1 : Kd.C k158 w A R r) (h2 : Kd.C k158 w B R r) (ha : R ≤ ca) (hb : R ≤ cb) :
    Calls Try.prog 61 #[.slice A R ca, .slice B R cb] w fun e w' => e = .returned (.bool true) ∧ Only (fun _ => False) w w' := by
  subst hr
  refine (tripwireref00_SameFeeds.calls (r.length + 1) A ca r B cb r true w h1 ha h2 hb (same_fd r (by omega) _ (by omega))).mono fun e w' h => ?_
  obtain ⟨he, k, rfl⟩ := h
  exact ⟨he, (Only.refl _ _).drewN _⟩
theorem C_only {w w' : World} {A : Option Addr} {R : Nat} {r : List S158} (h : Kd.C k158 w A R r) (o : Only (fun _ => False) w w') : Kd.C k158 w' A R r := Kd.C_below h o.below

/-- The book of two lists that are one's own. -/
theorem book_of {w1 w2 w3 wb : World} {bb R : Nat} {vx vy v1 v2 : Value} {ix iy : List Value} {base : Nat} (hbb : bb = wb.heap.size) (hR : R ≤ 67108866)
    (hx : wb.ownsRow base 158 3 vx R ix) (hy : wb.ownsRow base 158 3 vy R iy) (hap : ∀ g, vx.ownBlock = some g → vy.ownBlock ≠ some g)
    (hw1 : Only (fun _ => False) wb w1) (hs1 : w1.heap.size = wb.heap.size + 1)
    (h1 : v1.ownBlock = none ∨ v1.ownBlock = some (w1.heap.size + 1)) (o1 : Only (fun g => g = bb) w1 w2)
    (h2 : v2.ownBlock = v1.ownBlock ∨ v2.ownBlock = some (w2.heap.size + 1)) (o2 : Only (fun g => g = bb ∨ v1.ownBlock = some g) w2 w3)
    (hrow : w3.ownsRow 0 72 1 v2 2 [vx, vy]) :
    ∃ gl mc, v2 = .slice (some ⟨gl, 0, none⟩) 2 mc ∧ 2 ≤ mc ∧ OwnIn w3 gl 2 (fun r => if r = 0 then vx else vy) (fun _ => R) ∧ O1 w3 w3 gl 2 (fun r => if r = 0 then vx else vy) (fun _ => R) 0 0 ∧ ¬ HB 2 (fun r => if r = 0 then vx else vy) bb ∧ (∀ i, HB 2 (fun r => if r = 0 then vx else vy) i → base ≤ i) := by
  obtain ⟨gl, mc, e, hmc, _, hgl, hcells⟩ := ownC hrow (by decide)
  have z1 := o1.size
  have z2 := o2.size
  have hv1 : ∀ g, v1.ownBlock = some g → wb.heap.size ≤ g := fun g hg => by
    rcases h1 with h | h
    · rw [h] at hg; cases hg
    · rw [h] at hg; injection hg with hg; omega
  have hv2 : wb.heap.size ≤ gl := by
    have hg : v2.ownBlock = some gl := by rw [e]; rfl
    rcases h2 with h | h
    · exact hv1 gl (h ▸ hg)
    · rw [h] at hg; injection hg with hg; omega
  have kb : ∀ g, g < wb.heap.size → w3.heap[g]? = wb.heap[g]? := fun g hg => by
    rw [← hw1.block g hg id, ← o1.block g (by omega) (by show ¬ (g = bb); omega)]
    refine o2.block g (by omega) ?_
    rintro (h | h)
    · omega
    · have := hv1 g h; omega
  have kx := own_keep hx (W := w3) fun g hg => kb g (hx.lt g hg).2
  have ky := own_keep hy (W := w3) fun g hg => kb g (hy.lt g hg).2
  have hlt : ∀ r, r < 2 → ∀ g, (if r = 0 then vx else vy).ownBlock = some g → base ≤ g ∧ g < wb.heap.size := fun r hr g hg => by
    split at hg
    · exact hx.lt g hg
    · exact hy.lt g hg
  refine ⟨gl, mc, e, hmc, ⟨hgl, fun r hr g hg => ?_, fun r s hr hs hne g hg hg2 => ?_, fun r hr => by omega, by decide⟩, ⟨fun r hr => ?_, fun r hr => ?_, Only.refl _ _⟩, ?_, ?_⟩
  · have := hlt r hr g hg; omega
  · split at hg
    · rw [if_neg (by omega)] at hg2; exact hap g hg hg2
    · rw [if_pos (by omega)] at hg2; exact hap g hg2 hg
  · have : r = 0 ∨ r = 1 := by omega
    rcases this with rfl | rfl
    · exact (hcells 0 vx rfl).cell
    · exact (hcells 1 vy rfl).cell
  · have : r = 0 ∨ r = 1 := by omega
    rcases this with rfl | rfl
    · exact ⟨ix, own_weaken kx (Nat.zero_le _), fun h => by omega, fun _ => by simp [rowA]⟩
    · exact ⟨iy, own_weaken ky (Nat.zero_le _), fun h => by omega, fun _ => by simp [rowA]⟩
  · rintro ⟨r, hr, hg⟩
    have := hlt r hr bb hg
    omega
  · rintro i ⟨r, hr, hg⟩
    exact (hlt r hr i hg).1

set_option maxHeartbeats 8000000 in
set_option maxRecDepth 100000 in
theorem snapFeeds_yes (w : World) (x0 x1 x2 x3 y0 y1 y2 y3 c : Int) (a : Option Addr) (n cap : Nat) (xs : List S161) (hn : xs.length = n) (hcap : n ≤ cap) (hx : EvIn w a n cap (evV xs)) :
    Calls Try.prog 10 #[.agg #[.int .i64 x0, .int .i64 x1, .int .i64 x2, .int .i64 x3], .agg #[.int .i64 y0, .int .i64 y1, .int .i64 y2, .int .i64 y3], .int .i64 c, .slice a n cap] w fun e w' => e = .returned (.bool true) ∧ Only (fun _ => False) w w' := by
  have S4a := (Six.new w #[.int .i64 x0, .int .i64 x1, .int .i64 x2, .int .i64 x3] 86).only ((Only.refl (fun _ => False) _).alloc (.cells #[.int .i64 y0, .int .i64 y1, .int .i64 y2, .int .i64 y3] 86))
  have S5a := Six.new (w.alloc (.cells #[.int .i64 x0, .int .i64 x1, .int .i64 x2, .int .i64 x3] 86)) #[.int .i64 y0, .int .i64 y1, .int .i64 y2, .int .i64 y3] 86
  rw [World.size_alloc] at S5a
  have P0 := ((Only.refl (fun _ => False) w).alloc (.cells #[.int .i64 x0, .int .i64 x1, .int .i64 x2, .int .i64 x3] 86)).alloc (.cells #[.int .i64 y0, .int .i64 y1, .int .i64 y2, .int .i64 y3] 86)
  have HX := Lib.hid hx
  have HNN := Lib.hid hn
  clear hx hn
  go_enter Try.func10, Try.ntmps10
  go_wp2_with fail
  refine (snap_works _).mono ?_
  rintro e w0 ⟨rfl, o0⟩
  have S4 := S4a.only o0
  have S5 := S5a.only o0
  have P := P0.trans o0
  clear S4a S5a P0 o0
  by_cases hbig : 33554431 < n
  · have t1 : decide (33554431 < n) = true := by simpa using hbig
    clear S4 S5
    go_wp2_with fail
    go_returns
    exact ⟨rfl, P⟩
  · have t1 : decide (33554431 < n) = false := by simpa using hbig
    have hr := fdP_len x0 x1 y0 y1 c xs
    rw [HNN.out] at hr
    obtain ⟨r, hrr⟩ : ∃ r, fdP x0 x1 y0 y1 c xs = r := ⟨_, rfl⟩
    have hS := fun (W : World) (A : Option Addr) (cc : Nat) (h : EvIn W A n cc (evV xs)) (hc : n ≤ cc) => rc_snap x0 x1 x2 x3 y0 y1 y2 y3 c h HNN.out hc (by omega)
    have hF := fun (W : World) (h : EvIn W a n cap (evV xs)) => rc_ref x0 x1 x2 x3 y0 y1 y2 y3 c h HNN.out hcap (by omega)
    rw [hrr] at hr hS hF
    obtain ⟨R, hR⟩ : ∃ R, r.length = R := ⟨_, rfl⟩
    rw [hR] at hr hS hF
    have HR := Lib.hid hR.symm
    have H1 := fun W h => Lib.hid (s_lentE W a n cap xs HNN.out h (by omega))
    have H2 := fun W A cc h hc => Lib.hid (hS W A cc h hc)
    have H3 := fun W g hb h => Lib.hid (s_wholeE W g n xs hb HNN.out a cap hcap h (by omega))
    have H4 := fun W h => Lib.hid (hF W h)
    clear hS hF hrr hR
    have ac0 := S4 0 _ rfl; have ac1 := S4 1 _ rfl; have ac2 := S4 2 _ rfl; have ac3 := S4 3 _ rfl; have acz := cell_lt ac0
    have bc0 := S5 0 _ rfl; have bc1 := S5 1 _ rfl; have bc2 := S5 2 _ rfl; have bc3 := S5 3 _ rfl; have bcz := cell_lt bc0
    go_wp2_with fail
    refine (H1 _ (HX.out.only P (fun _ _ => id))).out.mono ?_
    intro e w1 h1
    obtain ⟨rfl, hblk, o1⟩ := h1
    have hg := (Array.getElem?_eq_some_iff.1 hblk).1
    clear ac0 ac1 ac2 ac3 acz bc0 bc1 bc2 bc3 bcz
    have S4' := S4.only o1
    have S5' := S5.only o1
    have P1 := P.trans o1
    have HB := Lib.hid hblk
    clear S4 S5 P hblk H1
    obtain ⟨G, hG⟩ : ∃ G, w0.heap.size = G := ⟨_, rfl⟩
    rw [hG] at HB hg
    simp only [hG]
    clear hG
    have ac0 := S4' 0 _ rfl; have ac1 := S4' 1 _ rfl; have ac2 := S4' 2 _ rfl; have ac3 := S4' 3 _ rfl; have acz := cell_lt ac0
    have bc0 := S5' 0 _ rfl; have bc1 := S5' 1 _ rfl; have bc2 := S5' 2 _ rfl; have bc3 := S5' 3 _ rfl; have bcz := cell_lt bc0
    go_wp2_with fail
    refine (H2 _ _ _ (ev_blk HNN.out HB.out _).1 (by omega)).out.mono ?_
    intro e w2 h2
    obtain ⟨A, ca, rfl, ⟨ix, hox⟩, hCx, hca, o2⟩ := h2
    clear ac0 ac1 ac2 ac3 acz bc0 bc1 bc2 bc3 bcz
    have S4 := S4'.only o2
    have S5 := S5'.only o2
    have hb2 := (o2.block _ hg id).trans HB.out
    have hg2 := Nat.lt_of_lt_of_le hg o2.size
    have HB2 := Lib.hid hb2
    have HOX := Lib.hid hox
    have HCX := Lib.hid hCx
    have P2 := P1.trans o2
    clear S4' S5' HB hb2 hox hCx
    have ac0 := S4 0 _ rfl; have ac1 := S4 1 _ rfl; have ac2 := S4 2 _ rfl; have ac3 := S4 3 _ rfl; have acz := cell_lt ac0
    have bc0 := S5 0 _ rfl; have bc1 := S5 1 _ rfl; have bc2 := S5 2 _ rfl; have bc3 := S5 3 _ rfl; have bcz := cell_lt bc0
    go_wp2_with fail
    refine (H2 _ _ _ (ev_blk HNN.out HB2.out _).1 (by omega)).out.mono ?_
    intro e w3 h3
    obtain ⟨B, cb, rfl, ⟨iy, hoy⟩, hCy, hcb, o3⟩ := h3
    clear ac0 ac1 ac2 ac3 acz bc0 bc1 bc2 bc3 bcz
    have S4' := S4.only o3
    have S5' := S5.only o3
    have hb3 := (o3.block _ hg2 id).trans HB2.out
    have HB3 := Lib.hid hb3
    have hap : ∀ g, (Value.slice A R ca).ownBlock = some g → (Value.slice B R cb).ownBlock ≠ some g := fun g h1 h2 => by
      have k1 := (HOX.out.lt g h1).2
      have k2 := (hoy.lt g h2).1
      omega
    have HAP := Lib.hid hap
    have zz1 := P1.size
    have zz2 := P2.size
    have HX3 := Lib.hid (own_weaken (own_keep HOX.out (W := w3) fun g hg => o3.block g (HOX.out.lt g hg).2 id) zz1)
    have HY3 := Lib.hid (own_weaken hoy zz2)
    have HCX3 := Lib.hid (C_only HCX.out o3)
    have HCY3 := Lib.hid hCy
    have P3 := P2.trans o3
    clear S4 S5 HB2 hb3 hoy hCy hap H2 HOX HCX
    go_wp2_with fail
    refine (H3 _ _ HB3.out (HX.out.only P3 (fun _ _ => id))).out.mono ?_
    rintro e w4 ⟨rfl, o4⟩
    have S4 := S4'.only o4
    have S5 := S5'.only o4
    have P4 := P3.trans o4
    clear S4' S5' HB3 H3
    have ac0 := S4 0 _ rfl; have ac1 := S4 1 _ rfl; have ac2 := S4 2 _ rfl; have ac3 := S4 3 _ rfl; have acz := cell_lt ac0
    have bc0 := S5 0 _ rfl; have bc1 := S5 1 _ rfl; have bc2 := S5 2 _ rfl; have bc3 := S5 3 _ rfl; have bcz := cell_lt bc0
    go_wp2_with fail
    refine (H4 _ (HX.out.only P4 (fun _ _ => id))).out.mono ?_
    intro e w5 h5
    obtain ⟨C, cc, rfl, _, hCz, hcc, o5⟩ := h5
    clear ac0 ac1 ac2 ac3 acz bc0 bc1 bc2 bc3 bcz
    have o35 := o4.trans o5
    have P5 := P4.trans o5
    have K1 := Lib.hid (rc_same HR.out (by omega) (C_only HCX3.out o35) hCz hca hcc)
    have K2 := fun W (o : Only (fun _ => False) w5 W) => Lib.hid (rc_same HR.out (by omega) (C_only (C_only HCY3.out o35) o) (C_only hCz o) hcb hcc)
    clear S4 S5 H4 hCz HCX3 HCY3
    go_wp2_with fail
    refine K1.out.mono ?_
    rintro e w6 ⟨rfl, o6⟩
    go_wp2_with fail
    refine (K2 _ o6).out.mono ?_
    rintro e w7 ⟨rfl, o7⟩
    have o37 := (o35.trans o6).trans o7
    have P7 := (P5.trans o6).trans o7
    have HX7 := Lib.hid (own_keep HX3.out (W := w7) fun g hg => o37.block g (HX3.out.lt g hg).2 id)
    have HY7 := Lib.hid (own_keep HY3.out (W := w7) fun g hg => o37.block g (HY3.out.lt g hg).2 id)
    clear K1 K2 HX3 HY3 o1 o2 o3 o4 o5 o6 o7 o35 o37
    have Q1 := (Only.refl (fun _ => False) w7).alloc (.cells #[.slice none 0 0, .slice none 0 0, .slice none 0 0, .slice none 0 0, .slice none 0 0, .slice none 0 0, .slice none 0 0, .slice none 0 0, .slice none 0 0, .slice none 0 0, .slice none 0 0] 105)
    have SB := Six.new w7 #[.slice none 0 0, .slice none 0 0, .slice none 0 0, .slice none 0 0, .slice none 0 0, .slice none 0 0, .slice none 0 0, .slice none 0 0, .slice none 0 0, .slice none 0 0, .slice none 0 0] 105
    have B1 := Lib.hid (b_feeds (w7.alloc (.cells #[.slice none 0 0, .slice none 0 0, .slice none 0 0, .slice none 0 0, .slice none 0 0, .slice none 0 0, .slice none 0 0, .slice none 0 0, .slice none 0 0, .slice none 0 0, .slice none 0 0] 105)) w7.heap.size 0 (.slice none 0 0) [] (World.ownsRow_nil _ _ _ _) (Cell.new rfl) (by simp [Value.ownBlock]) (by omega) A R ca)
    have HSB := Lib.hid SB
    have HQ1 := Lib.hid Q1
    have HP7 := Lib.hid P7
    clear SB Q1
    go_wp2_with fail
    refine B1.out.mono ?_
    intro e w8 h8
    obtain ⟨v1, rfl, hr1, hc1, ho1, hl1, q1⟩ := h8
    simp only [List.nil_append, Nat.zero_add] at hr1
    have e8 : Only (fun g => g = w7.heap.size) (w7.alloc (.cells #[.slice none 0 0, .slice none 0 0, .slice none 0 0, .slice none 0 0, .slice none 0 0, .slice none 0 0, .slice none 0 0, .slice none 0 0, .slice none 0 0, .slice none 0 0, .slice none 0 0] 105)) w8 := q1.mono fun g _ h => h.resolve_right (by simp [Value.ownBlock])
    have hl1' : v1.ownBlock = none ∨ v1.ownBlock = some ((w7.alloc (.cells #[.slice none 0 0, .slice none 0 0, .slice none 0 0, .slice none 0 0, .slice none 0 0, .slice none 0 0, .slice none 0 0, .slice none 0 0, .slice none 0 0, .slice none 0 0, .slice none 0 0] 105)).heap.size + 1) := hl1
    have B2 := Lib.hid (b_feeds w8 w7.heap.size 1 v1 [.slice A R ca] hr1 hc1 (fun e => by
      rcases hl1' with h | h
      · rw [h] at e; cases e
      · rw [h] at e; injection e with e; simp at e; omega) (by decide) B R cb)
    have HO1 := Lib.hid ho1
    have HL1 := Lib.hid hl1'
    have E8 := Lib.hid e8
    clear B1 hr1 hc1 ho1 hl1 hl1' q1 e8
    go_wp2_with fail
    refine B2.out.mono ?_
    intro e w9 h9
    obtain ⟨v2, rfl, hr2, hc2, ho2, hl2, q2⟩ := h9
    obtain ⟨gl, mc, rfl, hmc, hIn, hO1, hnb, hlow⟩ := book_of (wb := w7) (w1 := w7.alloc (.cells #[.slice none 0 0, .slice none 0 0, .slice none 0 0, .slice none 0 0, .slice none 0 0, .slice none 0 0, .slice none 0 0, .slice none 0 0, .slice none 0 0, .slice none 0 0, .slice none 0 0] 105)) rfl (by omega) HX7.out HY7.out HAP.out HQ1.out (by simp) HL1.out E8.out hl2 q2 hr2
    have B3 := Lib.hid (b_own w9 w7.heap.size gl 2 mc _ _ hIn hmc hO1 hc2.cell hnb (fun o ho hne => ho2 o _ hne (HO1.out o _ hne (HSB.out o _ (by
      have : o = 0 ∨ o = 1 ∨ o = 2 ∨ o = 3 ∨ o = 4 ∨ o = 5 ∨ o = 6 ∨ o = 8 ∨ o = 9 ∨ o = 10 := by omega
      rcases this with rfl | rfl | rfl | rfl | rfl | rfl | rfl | rfl | rfl | rfl <;> rfl)))))
    have HLOW := Lib.hid hlow
    have Q2 := Lib.hid q2
    clear B2 hr2 hc2 ho2 hl2 q2 hIn hO1 hnb hlow
    go_wp2_with fail
    refine B3.out.mono ?_
    rintro e w10 ⟨rfl, o10⟩
    have O10 := Lib.hid o10
    clear o10 B3
    go_wp2_with fail
    go_returns
    have z7 := HP7.out.size
    have f8 : Only (fun _ => False) w w8 := (HP7.out.trans HQ1.out).trans' E8.out fun g hg e => by omega
    have f9 : Only (fun _ => False) w w9 := f8.trans' Q2.out fun g hg e => by
      rcases e with e | e
      · omega
      · rcases HL1.out with h | h
        · rw [h] at e; cases e
        · rw [h] at e; injection e with e; simp at e; omega
    exact ⟨rfl, f9.trans' O10.out fun g hg e => by have := HLOW.out g e; omega⟩

theorem snapFeeds_walk (w : World) (c0 : List Value) (f0 : Fits [.i .i64, .i .i64, .i .i64, .i .i64] c0) (c1 : List Value) (f1 : Fits [.i .i64, .i .i64, .i .i64, .i .i64] c1) (k2 : Int) (wf2 : (Lit.int .i64 k2).wf = true)
    (a : Option Addr) (len cap : Nat) (rows : List (List Value)) (hs : SliceIn w a len cap [.i .u8, .i .i64, .i .i64, .i .i64, .i .i64, .i .u8, .i .i64, .i .i64, .i .i64] rows) (hlen : len * 72 ≤ 140737488351232) :
    Calls Try.prog 10 #[.agg c0.toArray, .agg c1.toArray, .int .i64 k2, .slice a len cap] w fun e w' => e = .returned (.bool true) ∧ Below w.heap.size w w' := by
  obtain ⟨x0, _, rfl, _, f0⟩ := fits_i f0
  obtain ⟨x1, _, rfl, _, f0⟩ := fits_i f0
  obtain ⟨x2, _, rfl, _, f0⟩ := fits_i f0
  obtain ⟨x3, _, rfl, _, f0⟩ := fits_i f0
  obtain rfl := fits_nil f0
  obtain ⟨y0, _, rfl, _, f1⟩ := fits_i f1
  obtain ⟨y1, _, rfl, _, f1⟩ := fits_i f1
  obtain ⟨y2, _, rfl, _, f1⟩ := fits_i f1
  obtain ⟨y3, _, rfl, _, f1⟩ := fits_i f1
  obtain rfl := fits_nil f1
  have hcap : len ≤ cap := by
    rcases hs.2.2 with ⟨_, h1, h2⟩ | ⟨_, _, h, _⟩
    · omega
    · exact h
  obtain ⟨xs, h1, h2⟩ := events_in hs
  exact (snapFeeds_yes w x0 x1 x2 x3 y0 y1 y2 y3 k2 a len cap xs h1 hcap h2).mono fun _ _ ⟨he, ho⟩ => ⟨he, ho.below⟩
end Go.Proofs.Ytiiflgihjnlmcaa
