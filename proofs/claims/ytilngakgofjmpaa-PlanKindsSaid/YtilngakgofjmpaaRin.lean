/- Within a round: a region that draws its order, of reads ahead of one call (as go_still_tail, which knows no round). No condition. -/
import Derived.Test.YtilngakgofjmpaaSeq
import Derived.StillTailTactics
import Derived.OrdersIn
import Derived.OwnWalkIn
import Derived.Maps.AppendAt
namespace Go.Proofs.Ytilngakgofjmpaa
set_option linter.unusedVariables false
set_option linter.unusedSimpArgs false
open Go.RowKit Go.Shelf

/-- What is asked behind the region: it ends normally. -/
def QN (Q : Exit → Act → World → Prop) : Exit → Act → World → Prop := fun e a w => e = .normal ∧ Q .normal a w
theorem QN.lets {Q : Exit → Act → World → Prop} : ¬ LetsOut (QN Q) := fun ⟨_, _, h, _⟩ => by cases h
def noDefer (ops : Array Oper) : Bool := ops.all fun o => match o.op with | .defer _ => false | _ => true

section
variable {P : Program} {Q : Exit → Act → World → Prop} {lr : Nat}
theorem operIn_of {o : Oper} {a : Act} {w : World} {K K' : Act → World → Prop} (hd : ∀ c, o.op ≠ .defer c) (hK : ∀ a w, K a w → K' a w) (h : o.wp P a w K (QN Q)) : o.wpIn (Fence.wide.inRound lr) 0 P a w K' Q := by
  refine ⟨fun _ _ => trivial, ?_⟩
  rw [Oper.semAt_eq _ _ _ hd]
  unfold Oper.wp at h
  generalize (execOp a.eval o).run P w = r at *
  cases r with
  | ok x w' =>
    cases x with
    | value v => exact hK _ _ h
    | skip => exact hK _ _ h
    | defer d => exact hK _ _ h
    | enter f args =>
      refine ⟨(fun h => by cases h), CallsIn.inRound lr (callsIn_wide.2 (Calls.mono h ?_))⟩
      intro e w'' he
      cases e with
      | returned v => exact hK _ _ he
      | panicked c => cases he.1
      | outgrown => exact absurd he QN.lets
    | row r args =>
      have h : Rows P r args w' fun v w'' => K (a.put o.dst v) w'' := h
      refine ⟨(fun h => by cases h), fun c cs _ => ?_⟩
      obtain ⟨v, w'', r1, r2⟩ := h c cs
      exact ⟨v, w'', hK _ _ r1, stepsIn_wide.2 r2⟩
    | round l f tmps assign body => exact h.elim
    | _ => exact h.elim
  | halt hh w' =>
    cases hh with
    | panic v => cases h.1
    | _ => exact h.elim

theorem anyIn_of {ops : Array Oper} (hnd : noDefer ops = true) : ∀ (fuel : Nat) (listed : Array Bool) (a : Act) (w : World), wpAny P .any ops (QN Q) fuel listed a w → wpAnyIn (Fence.wide.inRound lr) 0 P .any ops Q fuel listed a w := by
  intro fuel
  induction fuel with
  | zero => exact fun listed a w h => ⟨h.1, h.2.2⟩
  | succ fuel ih =>
    refine fun listed a w h => ⟨fun e => (h.1 e).2, fun i hi => ?_⟩
    have hi := h.2 i hi
    unfold wpOp at hi
    unfold wpOpIn
    cases ho : ops[i]? with
    | none => simp only [ho] at hi ⊢; exact ih _ _ _ hi
    | some o =>
      simp only [ho] at hi ⊢
      have hd : ∀ c, o.op ≠ .defer c := fun c e => by
        obtain ⟨hlt, hget⟩ := Array.getElem?_eq_some_iff.1 ho
        have hh := Array.all_eq_true.1 hnd i hlt
        rw [hget, e] at hh
        cases hh
      split at hi
      · rename_i hw
        rw [if_pos hw]
        rcases hi with hi | ⟨_, hi⟩
        · exact operIn_of hd (fun a w h => ih _ a w h) hi
        · exact absurd hi QN.lets
      · rename_i hw
        rw [if_neg hw]
        exact ⟨fun _ _ => trivial, ih _ _ _ hi⟩

/-- Reads, then what stands in one forced order. -/
theorem wpIn_still_tail {id : Nat} {a : Act} {w : World} {l : List Oper} (n : Nat) (hm : P.follows .mixedOrders = true) (hB : Region.lexTailB .any l.toArray n = true) (hnd : noDefer l.toArray = true)
    (h : wpStill P l.toArray w.drew (fun a' => wpList P l.toArray (QN Q) (l.drop n) a' w.drew) (l.take n) a) : (Code.region id l.toArray true).wpIn (Fence.wide.inRound lr) 0 P Q a w := by
  refine wpIn_region_any hm (anyIn_of hnd _ _ _ _ ?_)
  simp only [Region.lexTailB, Bool.and_eq_true, decide_eq_true_eq] at hB
  obtain ⟨⟨⟨⟨b1, b2⟩, b3⟩, b4⟩, b5⟩ := hB
  have hlen : n < l.length := by simpa using b2
  have e1 : (l.take n).length = n := List.length_take_of_le (by omega)
  have e2 : (l.drop n).length = l.toArray.size - n := by simp
  have key := wpAnyL_lex (P := P) (md := .any) (ops := l.toArray) (g := l.toArray.size - n) b1 b3 b4 b2 (l.take n) 0 (Array.replicate l.toArray.size false) a
    (fun j hj => by rw [e1] at hj; simp [hj]) (by simpa using e1)
    ⟨by simp, (fun j _ _ hl => by rw [getD_replicate_false] at hl; cases hl), fun t _ ht => getD_in (by simpa using ht) (getD_replicate_false _ _)⟩ (by rw [e1]; exact b5) h
  have key2 := wpAny_of_head (Q' := QN Q) (g := l.toArray.size - n) (fun listed a' hL => by
    have := wpAny_of_seq (P := P) (md := .any) (ops := l.toArray) (Q' := QN Q) (l.drop n) n listed a' w.drew (fun j => by simp [List.getElem?_drop]) (by rw [e2]; exact hL.1) hL.2
    rwa [e2] at this) _ _ _ key
  rw [e1, show n + (l.toArray.size - n) = l.toArray.size by omega] at key2
  exact key2

/-- An append whose outcome is known. -/
theorem wpListIn_append_run {F : Fence} {n : Nat} {w w' : World} {ops : Array Oper} {rest : List Oper} {o : Oper} {a : Act} (hgd : o.guard = none) (s x : Operand) (t : TypeId)
    (ho : o.op = .call { callee := .builtin .append, args := #[s, x], argTypes := #[t, t] }) (v u v' : Value) (hs : a.eval s = v) (hx : a.eval x = u)
    (hrun : (Builtin.append_ #[t, t] o.type #[v, u]).run P w = .ok v' w') (h : wpListIn F n P ops Q rest (a.put o.dst v') w') : wpListIn F n P ops Q (o :: rest) a w := by
  refine wpListIn_plain hgd fun K hK => ?_
  unfold Oper.wpIn
  refine ⟨?_, ?_⟩
  · simp [Oper.about, ho, resolve, Target.leads, Sem.run_pure]
  · rw [Oper.semAt_plain F _ _ (by rw [ho]; intro c hc; cases hc)]
    simp [execOp, ho, resolve, invoke, builtin, hs, hx, hrun, Result.andThen]
    exact hK _ _ h
/-- What an append onto a row of one's own leaves: its value and world, told ahead. -/
theorem append_own {w : World} {base : Nat} {t e ty : TypeId} {i : TypeInfo} {z : Value} {size bytes : Nat} (ht : P.underlying t = some (.slice e)) (hi : P.info? e = some i) (hz : i.zero = some z) (hsize : i.size = size) (hby : i.bytes = bytes) (hzs : z.cells.size = size) (hsz : 0 < size)
    {v : Value} {n : Nat} {xs : List Value} (hown : w.ownsRow base e size v n xs) (ad : Addr) (m c : Nat) (news : List Value) (hl : news.length = m * size) (hnews : ∀ j u, news[j]? = some u → w.cell? (ad.add j) = some u) (h1 : ∀ u ∈ news, u.oneCell' = true)
    (h63 : n + m ≤ maxLen) (hbytes : (n + m) * bytes ≤ 140737488355328) (hbase : base ≤ w.heap.size) :
    ∃ v' w', (Builtin.append_ #[t, t] ty #[v, .slice (some ad) m c]).run P w = .ok v' w' ∧ w'.ownsRow base e size v' (n + m) (xs ++ news) ∧ w.grownBy w' v.ownBlock ∧ (v'.ownBlock = v.ownBlock ∨ v'.ownBlock = some w.heap.size) := by
  obtain ⟨v', w', hr, h2, h3, h4, h5⟩ := run_append_own_at (P := P) w base t ty e i z size bytes ht hi hz hsize hby hzs hsz v n xs hown ad m c news hl hnews h1 h63 hbytes hbase
  exact ⟨v', w', hr, h2, h3, h5⟩
end
end Go.Proofs.Ytilngakgofjmpaa
