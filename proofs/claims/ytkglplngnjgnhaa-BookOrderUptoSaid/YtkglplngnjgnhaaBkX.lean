/- BookBack: the walk. No condition. -/
import Derived.Test.YtkglplngnjgnhaaBkW
namespace Go.Proofs.Ytkglplngnjgnhaa
set_option linter.unusedVariables false
set_option linter.unusedSimpArgs false
open Go.RowKit Go.Shelf
open Od (OrdR Lay FreeN Blk4)

theorem c_insert {w0 w : World} {X : Nat → Prop} {b most room : Nat} {l : Bool → List OrdR} {T : Nat → Prop} (h : BkC w0 X w b most room l T) (oi oc os op oq : Int) (hw : Wf oi) :
    Calls Try.prog 24 #[.pointer (some ⟨b, 0, none⟩), .agg #[.int .i64 oi, .int .i64 oc, .int .u8 os, .int .i64 op, .int .i64 oq]] w (CPost w0 X w b most room (insS most room l ⟨oi, oc, os, op, oq⟩) (.int .i64 (insE most room l ⟨oi, oc, os, op, oq⟩))) :=
  (bk_insert h.bk ⟨oi, oc, os, op, oq⟩ hw).mono fun _ _ hp => h.post hp
theorem c_remove {w0 w : World} {X : Nat → Prop} {b most room : Nat} {l : Bool → List OrdR} {T : Nat → Prop} (h : BkC w0 X w b most room l T) (k : Int) (hw : Wf k) :
    Calls Try.prog 28 #[.pointer (some ⟨b, 0, none⟩), .int .i64 k] w (CPost w0 X w b most room (remS l k) (remV l k)) := (bk_remove h.bk k hw).mono fun _ _ hp => h.post hp
theorem BkC.startX {w0 w w' : World} {b most room : Nat} {X : Nat → Prop} {e : Ending} (o : Only (fun _ => False) w0 w) (hX : ∀ i, X i → i < w.heap.size) (h : BkNew w most room e w') : ∃ b T, e = .returned (.tuple #[.pointer (some ⟨b, 0, none⟩), .int .i64 0]) ∧ BkC w0 X w' b most room (fun _ => []) T ∧ Only (fun _ => False) w w' := by
  obtain ⟨b, T, he, hb, ho, hT⟩ := h
  exact ⟨b, T, he, ⟨hb, fun i hi => ⟨Nat.le_trans o.size (hT i hi), fun hx => by have := hX i hx; have := hT i hi; omega⟩, o.trans ho, fun i hi => Nat.lt_of_lt_of_le (hX i hi) ho.size⟩, ho⟩
theorem Five.keepB {w w' : World} {K : Nat → Prop} {g : Nat} {a0 a1 a2 a3 a4 : Value} (h : Five w g a0 a1 a2 a3 a4) (k : KeepB K w w') (hK : K g) : Five w' g a0 a1 a2 a3 a4 := ⟨h.c0.blk (k g hK), h.c1.blk (k g hK), h.c2.blk (k g hK), h.c3.blk (k g hK), h.c4.blk (k g hK)⟩
/-- A list of orders that lies in blocks of its own. -/
def OwnL (w : World) (va : Option Addr) (cap : Nat) (l : List OrdR) : Prop := w.ownsRow 0 54 5 (.slice va l.length cap) l.length (ordC l)
def vaB (va : Option Addr) (n cap : Nat) (i : Nat) : Prop := (Value.slice va n cap).ownBlock = some i
theorem OwnL.only {w w' : World} {va : Option Addr} {cap : Nat} {l : List OrdR} (h : OwnL w va cap l) (o : Only (fun _ => False) w w') : OwnL w' va cap l := ownsRow_apart h o (fun _ _ => id)
/-- What Orders hands back, beside the book. -/
def LPost (w0 : World) (X : Nat → Prop) (w : World) (b most room : Nat) (l : Bool → List OrdR) (T : Nat → Prop) (m : List OrdR) (e : Ending) (w' : World) : Prop :=
  ∃ va cap, e = .returned (.slice va m.length cap) ∧ OwnL w' va cap m ∧ BkC w0 (fun i => X i ∨ vaB va m.length cap i) w' b most room l T ∧ Only (fun _ => False) w w'
theorem c_list {w0 w : World} {X : Nat → Prop} {b most room : Nat} {l : Bool → List OrdR} {T : Nat → Prop} (h : BkC w0 X w b most room l T) (q : Bool) :
    Calls Try.prog 25 #[.pointer (some ⟨b, 0, none⟩), .int .u8 (sdN q)] w (LPost w0 X w b most room l T (l q)) := by
  refine (bk_list h.bk q).mono fun e w' hp => ?_
  obtain ⟨v, he, ho, oo⟩ := hp
  obtain ⟨va, cap, rfl, _⟩ := own_slice ho
  exact ⟨va, cap, he, ownsRow_base ho (Nat.zero_le _), h.more oo (fun i hi => ho.lt i hi), oo⟩

set_option maxRecDepth 100000 in
set_option maxHeartbeats 8000000 in
theorem bookBack_yes (w : World) (a : Option Addr) (len cap : Nat) (rows : List (List Value)) (hs : SliceIn w a len cap [.i .i64, .i .i64, .i .u8, .i .i64, .i .i64] rows) (hlen : len * 40 ≤ 140737488351232) (oi oc os op oq : Int) (hw : Wf oi) :
    Calls Try.prog 6 #[.slice a len cap, .agg #[.int .i64 oi, .int .i64 oc, .int .u8 os, .int .i64 op, .int .i64 oq]] w fun e w' => e = .returned (.bool true) ∧ Only (fun _ => False) w w' := by
  have H0 := fun W => Lib.hid (k_new W 256 128 (by decide) (by decide))
  have HSS := Lib.hid hs
  have HWW := Lib.hid hw
  clear hs hw
  go_enter Try.func6, Try.ntmps6
  go_wp2_with fail
  refine (bworks_walk _).mono ?_
  rintro e w1 ⟨rfl, o1⟩
  have HF1 := Lib.hid ((Five.new w (.int .i64 oi) (.int .i64 oc) (.int .u8 os) (.int .i64 op) (.int .i64 oq) 54).only o1 id)
  have O1 : Only (fun _ => False) w w1 := ((Only.refl _ w).alloc _).trans o1
  have HO1 := Lib.hid O1
  have z1 := O1.size
  clear o1 O1
  go_wp2_with fail
  refine (H0 _).out.mono ?_
  intro e w2 hp
  obtain ⟨b, T0, rfl, C0, o12⟩ := BkC.startX (b := 0) (X := (· = w.heap.size)) HO1.out (fun i hi => by subst hi; exact HF1.out.c0.lt) hp
  have HF2 := Lib.hid (HF1.out.only o12 id)
  have HC0 := Lib.hid C0
  clear hp C0 H0 o12 HF1
  go_wp2_with fail
  go_loopw [8] (fun s wr => ∃ (k : Nat) (l : Bool → List OrdR) (T : Nat → Prop), k ≤ len ∧ s = .int .i64 k ∧ BkC w (· = w.heap.size) wr b 128 256 l T ∧ Five wr w.heap.size (.int .i64 oi) (.int .i64 oc) (.int .u8 os) (.int .i64 op) (.int .i64 oq)) (fun s _ => len - (intOf s).toNat)
  case atStart => exact ⟨0, _, T0, by omega, rfl, HC0.out, HF2.out⟩
  case round =>
    clear HC0 HF2
    obtain ⟨k, l, T, hk, rfl, hC, hF⟩ := hrel
    by_cases hlt : k < len
    · have hs := HSS.out
      obtain ⟨B, off, ha, hB, hcell⟩ := hs.at_ (by omega) (by decide)
      subst ha
      obtain ⟨r, hr⟩ : ∃ r, rows[k]? = some r := ⟨_, List.getElem?_eq_getElem (by rw [hs.1]; exact hlt)⟩
      obtain ⟨xi, _, rfl, hw0, hf⟩ := fits_i (hs.2.1 r (List.mem_of_getElem? hr))
      obtain ⟨xc, _, rfl, hw1, hf⟩ := fits_i hf
      obtain ⟨xs, _, rfl, hw2, hf⟩ := fits_i hf
      obtain ⟨xp, _, rfl, hw3, hf⟩ := fits_i hf
      obtain ⟨xq, _, rfl, hw4, hf⟩ := fits_i hf
      obtain rfl := fits_nil hf
      have ho := hC.only
      have r0 := ho.cell (hcell k _ hr 0 _ rfl) id
      have r1 := ho.cell (hcell k _ hr 1 _ rfl) id
      have r2 := ho.cell (hcell k _ hr 2 _ rfl) id
      have r3 := ho.cell (hcell k _ hr 3 _ rfl) id
      have r4 := ho.cell (hcell k _ hr 4 _ rfl) id
      simp only [List.length_cons, List.length_nil, Nat.zero_add, Nat.reduceAdd, Nat.add_zero] at r0 r1 r2 r3 r4
      have hbr : B < wr.heap.size := Nat.lt_of_lt_of_le hB ho.size
      have t1 : decide (k < len) = true := by simpa using hlt
      have i1 : (0 : Int) ≤ (k : Int) ∧ (k : Int) < (len : Int) := by omega
      have w1' : IntKind.i64.wrap ((k : Int) + 1) = (k : Int) + 1 := by rw [IntKind.wrap_i64]; omega
      have HD := Lib.hid (c_insert hC xi xc xs xp xq hw0)
      have HFF := Lib.hid hF
      clear hcell hf hr hC hF hs ho hw0 hw1 hw2 hw3 hw4
      go_wp2_with fail
      refine HD.out.mono ?_
      intro e w6 hp
      obtain ⟨T6, rfl, hC6, hk6, hz6⟩ := hp
      have HC6 := Lib.hid hC6
      have HF6 := Lib.hid (HFF.out.keepB hk6 rfl)
      clear hC6 hk6 HD HFF
      go_wp2_with fail
      go_roundw
      case rel => exact ⟨k + 1, _, T6, by omega, by go_num, HC6.out, HF6.out⟩
      case measure => simp [intOf]; omega
    · have t1 : decide (k < len) = false := by simpa using hlt
      have HL1 := Lib.hid (c_list hC false)
      have hfl := hC.bk.good.len
      have HF := Lib.hid hF
      clear hC hF
      go_wp2_with fail
      refine HL1.out.mono ?_
      intro e w3 hp
      obtain ⟨va, ca, rfl, x3, C3, o3⟩ := hp
      have HL2 := Lib.hid (c_list C3 true)
      have HX3 := Lib.hid x3
      have HF3 := Lib.hid (HF.out.only o3 id)
      clear HL1 x3 C3 o3 HF
      go_wp2_with fail
      refine HL2.out.mono ?_
      intro e w4 hp
      obtain ⟨vb, cb, rfl, y4, C4, o4⟩ := hp
      have HR := Lib.hid (bk_room C4.bk)
      have HC4 := Lib.hid C4
      have HX4 := Lib.hid (HX3.out.only o4)
      have HY4 := Lib.hid y4
      have HF4 := Lib.hid (HF3.out.only o4 id)
      clear HL2 HX3 HF3 y4 C4 o4
      obtain ⟨r, hr⟩ : ∃ r, r = 256 - ((l false).length + (l true).length) := ⟨_, rfl⟩
      rw [← hr] at HR
      have HRR := Lib.hid hr
      clear hr hfl
      go_wp2_with fail
      refine HR.out.mono ?_
      rintro e w5 ⟨rfl, o5⟩
      have C5 := HC4.out.only' o5
      have F5 := HF4.out.only o5 id
      have d0 := F5.c0.cell; have d1 := F5.c1.cell; have d2 := F5.c2.cell; have d3 := F5.c3.cell; have d4 := F5.c4.cell
      have zd := cell_lt d0
      have HI := Lib.hid (c_insert C5 oi oc os op oq HWW.out)
      have HX5 := Lib.hid (HX4.out.only o5)
      have HY5 := Lib.hid (HY4.out.only o5)
      have HF5 := Lib.hid F5
      clear HR HC4 HX4 HY4 HF4 C5 F5 o5
      go_wp2_with fail
      refine HI.out.mono ?_
      intro e w6 hp
      obtain ⟨T6, rfl, C6, k6, z6⟩ := hp
      have HX6 := Lib.hid (ownsRow_keepB HX5.out k6 (fun i hi => .inl (.inr hi)))
      have HY6 := Lib.hid (ownsRow_keepB HY5.out k6 (fun i hi => .inr hi))
      have HF6 := Lib.hid (HF5.out.keepB k6 (.inl (.inl rfl)))
      clear HI HX5 HY5 HF5 k6 d0 d1 d2 d3 d4 zd
      by_cases hE : insE 128 256 l ⟨oi, oc, os, op, oq⟩ = 0
      · obtain ⟨e1, e2, e3⟩ := in_out hE
        have hlr := C6.bk.good.len
        rw [e3] at hlr
        rw [hE]
        have HR6 := Lib.hid (bk_room C6.bk)
        rw [e3, show ((256 - ((l false).length + (l true).length + 1) : Nat) : Int) = (r : Int) - 1 by have := HRR.out; omega] at HR6
        have HRM := Lib.hid fun W (o : Only (fun _ => False) w6 W) => c_remove (C6.only' o) oi HWW.out
        simp only [e1, e2, ordV] at HRM
        have F6 := HF6.out
        have HE := Lib.hid hlr
        have hr1 : 1 ≤ r := by have := HRR.out; omega
        clear hE e1 e2 e3 C6 hlr
        go_wp2_with fail
        refine HR6.out.mono ?_
        rintro e w7 ⟨rfl, o7⟩
        have F7 := F6.only o7 id
        have d0 := F7.c0.cell
        have zd := cell_lt d0
        have HRM7 := Lib.hid (HRM.out _ o7)
        have HX7 := Lib.hid (OwnL.only HX6.out o7)
        have HY7 := Lib.hid (OwnL.only HY6.out o7)
        have HF7 := Lib.hid F7
        clear HR6 HRM F6 F7 HX6 HY6 HF6 o7
        go_wp2_with fail
        refine HRM7.out.mono ?_
        intro e w8 hp
        obtain ⟨T8, rfl, C8, k8, z8⟩ := hp
        have oB := (Only.refl (fun _ => False) w8).alloc (.cells #[.int .i64 oi, .int .i64 oc, .int .u8 os, .int .i64 op, .int .i64 oq] 54)
        have HX8 := Lib.hid (OwnL.only (ownsRow_keepB HX7.out k8 (fun i hi => .inl (.inr hi))) oB)
        have HY8 := Lib.hid (OwnL.only (ownsRow_keepB HY7.out k8 (fun i hi => .inr hi)) oB)
        have HF8 := Lib.hid ((HF7.out.keepB k8 (.inl (.inl rfl))).only oB id)
        have HP8 := Lib.hid (Five.new w8 (.int .i64 oi) (.int .i64 oc) (.int .u8 os) (.int .i64 op) (.int .i64 oq) 54)
        have C9 := C8.only' oB
        have HL3 := Lib.hid (c_list C9 false)
        clear HRM7 HX7 HY7 HF7 C8 k8 d0 zd oB C9
        go_wp2_with fail
        refine HL3.out.mono ?_
        intro e w9 hp
        obtain ⟨vc, cc, rfl, x9, C9, o9⟩ := hp
        have HL4 := Lib.hid (c_list C9 true)
        have HX9 := Lib.hid (OwnL.only HX8.out o9)
        have HY9 := Lib.hid (OwnL.only HY8.out o9)
        have HF9 := Lib.hid (HF8.out.only o9 id)
        have HP9 := Lib.hid (HP8.out.only o9 id)
        have HU9 := Lib.hid x9
        clear HL3 x9 C9 o9 HX8 HY8 HF8 HP8
        go_wp2_with fail
        refine HL4.out.mono ?_
        intro e w10 hp
        obtain ⟨vd, cd, rfl, y10, C10, o10⟩ := hp
        have hlb := C10.bk.good.len
        have HS1 := Lib.hid fun W (o : Only (fun _ => False) w10 W) => k_same W (l false) va vc ca cc (by omega) (OrdAt.of_slice (OwnL.only (HX9.out.only o10) o)) (OrdAt.of_slice (OwnL.only (HU9.out.only o10) o))
        have HS2 := Lib.hid fun W (o : Only (fun _ => False) w10 W) => k_same W (l true) vb vd cb cd (by omega) (OrdAt.of_slice (OwnL.only (HY9.out.only o10) o)) (OrdAt.of_slice (OwnL.only y10 o))
        have HF10 := Lib.hid (HF9.out.only o10 id)
        have HP10 := Lib.hid (HP9.out.only o10 id)
        have HC10 := Lib.hid C10
        clear HL4 HX9 HY9 HU9 y10 C10 o10 hlb HF9 HP9
        go_wp2_with fail
        refine (HS1.out _ (Only.refl _ _)).mono ?_
        rintro e w11 ⟨rfl, o11⟩
        go_wp2_with fail
        refine (HS2.out _ o11).mono ?_
        rintro e w12 ⟨rfl, o12⟩
        have C12 := (HC10.out.only' o11).only' o12
        have F12 := (HF10.out.only o11 id).only o12 id
        have P12 := (HP10.out.only o11 id).only o12 id
        have d0 := F12.c0.cell; have d1 := F12.c1.cell; have d2 := F12.c2.cell; have d3 := F12.c3.cell; have d4 := F12.c4.cell
        have p0 := P12.c0.cell; have p1 := P12.c1.cell; have p2 := P12.c2.cell; have p3 := P12.c3.cell; have p4 := P12.c4.cell
        have zd := cell_lt d0
        have zp := cell_lt p0
        have HR2 := Lib.hid (bk_room C12.bk)
        rw [← HRR.out] at HR2
        have HO12 := Lib.hid C12.only
        have w1 : IntKind.i64.wrap ((r : Int) - 1) = (r : Int) - 1 := by rw [IntKind.wrap_i64]; have := HRR.out; omega
        clear C12 HC10 HS1 HS2 o11 o12 F12 P12 HF10 HP10
        have t3 : ((r : Int) == (r : Int)) = true := by simp
        have t4 : (((r : Int) - 1) == ((r : Int) - 1)) = true := by simp
        go_wp2_with fail
        refine HR2.out.mono ?_
        rintro e w13 ⟨rfl, o13⟩
        go_wp2_with fail
        go_returns
        exact ⟨rfl, HO12.out.trans o13⟩
      · have t2 : (insE 128 256 l ⟨oi, oc, os, op, oq⟩ != 0) = true := by simpa using hE
        have e2 : insS 128 256 l ⟨oi, oc, os, op, oq⟩ = l := by unfold insS; rw [if_neg hE]
        rw [e2] at C6
        generalize insE 128 256 l ⟨oi, oc, os, op, oq⟩ = E at *
        have HL3 := Lib.hid (c_list C6 false)
        clear hE e2 C6
        go_wp2_with fail
        refine HL3.out.mono ?_
        intro e w7 hp
        obtain ⟨vc, cc, rfl, x7, C7, o7⟩ := hp
        have HL4 := Lib.hid (c_list C7 true)
        have HX7 := Lib.hid (OwnL.only HX6.out o7)
        have HY7 := Lib.hid (OwnL.only HY6.out o7)
        have HU7 := Lib.hid x7
        clear HL3 x7 C7 o7 HX6 HY6 HF6
        go_wp2_with fail
        refine HL4.out.mono ?_
        intro e w8 hp
        obtain ⟨vd, cd, rfl, y8, C8, o8⟩ := hp
        have hlb := C8.bk.good.len
        have HS1 := Lib.hid fun W (o : Only (fun _ => False) w8 W) => k_same W (l false) va vc ca cc (by omega) (OrdAt.of_slice (OwnL.only (HX7.out.only o8) o)) (OrdAt.of_slice (OwnL.only (HU7.out.only o8) o))
        have HS2 := Lib.hid fun W (o : Only (fun _ => False) w8 W) => k_same W (l true) vb vd cb cd (by omega) (OrdAt.of_slice (OwnL.only (HY7.out.only o8) o)) (OrdAt.of_slice (OwnL.only y8 o))
        have HC8 := Lib.hid C8
        clear HL4 HX7 HY7 HU7 y8 C8 o8 hlb
        go_wp2_with fail
        refine (HS1.out _ (Only.refl _ _)).mono ?_
        rintro e w9 ⟨rfl, o9⟩
        go_wp2_with fail
        refine (HS2.out _ o9).mono ?_
        rintro e w10 ⟨rfl, o10⟩
        have C10 := (HC8.out.only' o9).only' o10
        have HR2 := Lib.hid (bk_room C10.bk)
        rw [← HRR.out] at HR2
        have HO10 := Lib.hid C10.only
        clear C10 HC8 HS1 HS2 o9 o10
        have t3 : ((r : Int) == (r : Int)) = true := by simp
        go_wp2_with fail
        refine HR2.out.mono ?_
        rintro e w11 ⟨rfl, o11⟩
        go_wp2_with fail
        go_returns
        exact ⟨rfl, HO10.out.trans o11⟩

theorem bookBack_walk (w : World) (a : Option Addr) (len cap : Nat) (rows : List (List Value)) (hs : SliceIn w a len cap [.i .i64, .i .i64, .i .u8, .i .i64, .i .i64] rows) (hlen : len * 40 ≤ 140737488351232) (c1 : List Value) (f1 : Fits [.i .i64, .i .i64, .i .u8, .i .i64, .i .i64] c1) :
    Calls Try.prog 6 #[.slice a len cap, .agg c1.toArray] w fun e w' => e = .returned (.bool true) ∧ Below w.heap.size w w' := by
  obtain ⟨oi, _, rfl, hw, f1⟩ := fits_i f1
  obtain ⟨oc, _, rfl, _, f1⟩ := fits_i f1
  obtain ⟨os, _, rfl, _, f1⟩ := fits_i f1
  obtain ⟨op, _, rfl, _, f1⟩ := fits_i f1
  obtain ⟨oq, _, rfl, _, f1⟩ := fits_i f1
  obtain rfl := fits_nil f1
  exact (bookBack_yes w a len cap rows hs hlen oi oc os op oq hw).mono fun _ _ ⟨he, ho⟩ => ⟨he, ho.below⟩
end Go.Proofs.Ytkglplngnjgnhaa
