/- SnapFeeds: what is lent: a copy with marks behind it. Conditions: at most 33554431 events. -/
import Derived.Test.YtiiflgihjnlmcaaEv1
import Derived.Laws.Tables
import Derived.Laws.MakeOwn
import Derived.Laws.AppendOwnNone
namespace Go.Proofs.Ytiiflgihjnlmcaa
set_option linter.unusedVariables false
set_option linter.unusedSimpArgs false
open Go.RowKit Go.Proofs.YtiiflgihjnlmcaaW.PrintWords Go.Proofs.YtiiflgihjnlmcaaW.PrintLast Go.Proofs.YtiiflgihjnlmcaaW.PrintMore Go.Proofs.Ytiiflgihjnlmcaa.PSnapFeeds

def marksE : List Value := [.int .u8 0, .int .i64 (-771), .int .i64 0, .int .i64 0, .int .i64 0, .int .u8 0, .int .i64 0, .int .i64 0, .int .i64 0, .int .u8 0, .int .i64 (-772), .int .i64 0, .int .i64 0, .int .i64 0, .int .u8 0, .int .i64 0, .int .i64 0, .int .i64 0]

theorem Only.setRow {S : Nat → Prop} {a w : World} (h : Only S a w) {g : Nat} (hg : S g ∨ a.heap.size ≤ g) (cs : Array Value) : Only S a (w.setRow g cs) :=
  ⟨h.os, h.tape, h.output, by rw [size_setRow]; exact h.size, fun i hi hs => (setRow_other w g i cs (by
    rintro rfl
    rcases hg with h1 | h1
    · exact hs h1
    · omega)).trans (h.block i hi hs)⟩

/-- What is lent. -/
def LentE (w : World) (n : Nat) (xs : List S161) (e : Ending) (w' : World) : Prop :=
  e = .returned (.slice (some ⟨w.heap.size, 0, none⟩) n (n + 2)) ∧ w'.heap[w.heap.size]? = some (.cells (evV xs ++ marksE).toArray 161 (0, 0)) ∧ Only (fun _ => False) w w'

set_option maxHeartbeats 4000000 in
set_option maxRecDepth 100000 in
theorem s_lentE (w : World) (a : Option Addr) (n cap : Nat) (xs : List S161) (hn : xs.length = n) (hx : EvIn w a n cap (evV xs)) (hN : n ≤ 33554431) :
    Calls Try.prog 57 #[.slice a n cap] w (LentE w n xs) := by
  obtain ⟨i3, hi3, hz3, hs3, hb3⟩ := info_of Try.infoEvent
  have wk : IntKind.i64.wrap ((n : Int) + 2) = (n : Int) + 2 := by rw [IntKind.wrap_i64]; omega
  have hm : ∀ W : World, (Instr.makeSlice 87 (.int .i64 0) (.int .i64 ((n : Int) + 2))).run Try.prog W = .ok (.slice (some ⟨W.heap.size, 0, none⟩) 0 (n + 2)) (W.alloc (.cells (madeCells #[.int .u8 0, .int .i64 0, .int .i64 0, .int .i64 0, .int .i64 0, .int .u8 0, .int .i64 0, .int .i64 0, .int .i64 0] ((n + 2) * 9)) 161)) := fun W => by
    have hr := run_make (P := Try.prog) W 87 161 i3 _ Try.underlying87 hi3 hz3 .i64 .i64 0 ((n : Int) + 2) (by omega) (by omega) (by rw [hb3]; omega) (by omega)
    have e1 : ((n : Int) + 2).toNat = n + 2 := by omega
    rw [e1, hs3] at hr
    exact hr
  have hsz : ((n + 2) * 9) = (madeCells #[Value.int .u8 0, .int .i64 0, .int .i64 0, .int .i64 0, .int .i64 0, .int .u8 0, .int .i64 0, .int .i64 0, .int .i64 0] ((n + 2) * 9)).size := by simp [madeCells]
  generalize madeCells #[Value.int .u8 0, .int .i64 0, .int .i64 0, .int .i64 0, .int .i64 0, .int .u8 0, .int .i64 0, .int .i64 0, .int .i64 0] ((n + 2) * 9) = zs at hm hsz
  have HX := Lib.hid hx
  have HN := Lib.hid hn
  clear hx hn
  go_enter Try.func57, Try.ntmps57
  go_upto_region 1 with fail
  go_cut [3] from 5 to 10 (fun s3 wc => s3 = .slice (some ⟨w.heap.size, 0, none⟩) n (n + 2) ∧ (∃ tl : List Value, tl.length = 18 ∧ wc.heap[w.heap.size]? = some (.cells (evV xs ++ tl).toArray 161 (0, 0))) ∧ Only (fun _ => False) w wc)
  case first =>
    rcases HX.out with ⟨rfl, h2, h3⟩ | ⟨ad, rfl, hc⟩
    · have h4 : xs = [] := List.eq_nil_of_length_eq_zero (by rw [HN.out]; exact h2)
      have H2 := Lib.hid h2
      have H3 := Lib.hid h3
      clear h2 h3
      have hown := World.ownsRow_made (base := w.heap.size) (e := 161) (size := 9) w zs (n + 2) (Nat.le_refl _) (by unfold maxLen; omega) hsz.symm
      go_wp2_with ((at_builtin; refine wpList_append_own_none rfl (.tmp 8) (.tmp 9) 87 rfl w.heap.size 161 i3 9 Try.underlying87 hi3 _ _ _ rfl hown (by show Value.slice none n cap = _; rw [H2.out, H3.out]) ?_))
      go_meet
      refine ⟨by rw [H2.out], ⟨zs.toList, by rw [Array.length_toList, ← hsz, H2.out], ?_⟩, by repeat' (first | (with_reducible exact Only.refl _ _) | (with_reducible assumption) | (refine Only.of_none ?_; with_reducible assumption) | (with_reducible refine Only.drewN ?_ _) | (with_reducible refine Only.drew ?_) | (with_reducible refine Only.alloc ?_ _) | (with_reducible refine Only.setCell ?_ ?_ _) | (with_reducible refine Only.then0 ?_ (by with_reducible assumption)) | (with_reducible refine Only.thenN ?_ (by with_reducible assumption) ?_) | (with_reducible refine Only.trans ?_ (by with_reducible assumption)) | (refine .inl ?_; first | rfl | (simp; done) | (simp [Ar.blk]; done)) | (refine .inr ?_; first | omega | (simp; done) | (simp; omega) | exact Only.size (by with_reducible assumption) | (refine Nat.le_trans (Only.size (by with_reducible assumption)) ?_; simp; done)))⟩
      subst h4
      have := heap_alloc_new w (.cells zs 161)
      simpa [evV] using this
    · have hrun := run_append_room (P := Try.prog) (w := w.alloc (.cells zs 161)) 87 87 161 i3 Try.underlying87 hi3 w.heap.size 0 (n + 2) zs (heap_alloc_new w _) ad n cap (evV xs) (by rw [evV_length, HN.out, hs3]) (fun j u hu => by
        have := hc j u hu
        exact (World.cell?_of_block (w := w) (Below.heap_alloc w _ _ (World.block_lt_of_cell? w _ this))).trans this) (evV_one xs) (by omega) (by rw [evV_length, HN.out, ← hsz]; omega)
      rw [Nat.zero_add, Nat.zero_mul, List.take_zero, List.nil_append, Nat.zero_add] at hrun
      have HR := Lib.hid hrun
      clear hrun
      go_wp2_with ((at_builtin; refine wpList_append_run rfl (.tmp 8) (.tmp 9) 87 rfl _ _ _ rfl rfl HR.out ?_))
      go_meet
      refine ⟨rfl, ⟨zs.toList.drop (evV xs).length, ?_, setRow_heap _ _ zs _ _ _ (heap_alloc_new w _)⟩, ((Only.refl _ w).alloc _).setRow (.inr (Nat.le_refl _)) _⟩
      rw [List.length_drop, Array.length_toList, ← hsz, evV_length, HN.out]; omega
  case rest =>
    obtain ⟨rfl, ⟨tl, htl, hblk⟩, ho⟩ := hcut
    have hg : w.heap.size < wc.heap.size := (Array.getElem?_eq_some_iff.1 hblk).1
    have hnew := heap_alloc_new wc (.cells (marksE).toArray 161)
    have hrun := run_append_room (P := Try.prog) (w := wc.alloc (.cells (marksE).toArray 161)) 87 87 161 i3 Try.underlying87 hi3 w.heap.size n (n + 2) (evV xs ++ tl).toArray ((Below.heap_alloc wc _ _ hg).trans hblk) ⟨wc.heap.size, 0, none⟩ 2 2 marksE (by rw [hs3]; rfl)
      (fun j u hu => by
        rw [show (⟨wc.heap.size, 0, none⟩ : Addr).add j = ⟨wc.heap.size, j, none⟩ by unfold Addr.add; split <;> simp_all]
        exact (Cell.new (by simpa using hu)).cell) (by decide) (Nat.le_refl _) (by simp [evV_length, HN.out, htl, hs3, marksE])
    have e3 : ((evV xs ++ tl).toArray.toList.take (n * i3.size) ++ marksE ++ (evV xs ++ tl).toArray.toList.drop (n * i3.size + marksE.length)).toArray = (evV xs ++ marksE).toArray := by
      rw [hs3, List.toList_toArray, List.take_append_of_le_length (by rw [evV_length, HN.out]; omega), List.take_of_length_le (by rw [evV_length, HN.out]; omega), List.drop_eq_nil_of_le (by rw [List.length_append, evV_length, HN.out, htl]; simp [marksE]), List.append_nil]
    rw [e3] at hrun
    have HR := Lib.hid hrun
    clear hrun e3 hnew
    have hfin := setRow_heap (wc.alloc (.cells (marksE).toArray 161)) w.heap.size _ (evV xs ++ marksE).toArray _ _ ((Below.heap_alloc wc _ _ hg).trans hblk)
    have HFIN := Lib.hid hfin
    clear hfin
    go_wp2_with ((at_builtin; refine wpList_append_run rfl (.tmp 11) (.tmp 14) 87 rfl _ _ _ rfl rfl HR.out ?_))
    go_returns
    exact ⟨rfl, HFIN.out, (ho.alloc _).setRow (.inr (Nat.le_refl _)) _⟩
end Go.Proofs.Ytiiflgihjnlmcaa
