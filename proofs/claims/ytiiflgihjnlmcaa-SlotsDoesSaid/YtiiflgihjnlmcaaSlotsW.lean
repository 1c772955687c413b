/- Slots: the chapter's own example (works), walked. No condition. -/
import Derived.Test.YtiiflgihjnlmcaaStrH
namespace Go.Proofs.Ytiiflgihjnlmcaa
set_option linter.unusedVariables false
set_option linter.unusedSimpArgs false
open Go.RowKit

instance (nr room : Nat) (R : Nat → List Nat) (n : Nat) : Decidable (FreeN nr room R n) := by unfold FreeN; infer_instance

namespace works
open Go.Proofs.Ytiiflgihjnlmcaa.Str
def R1 : Nat → List Nat := upd (fun _ => []) 0 [0]
def V1 : Nat → ByteArray := upd (fun _ => ByteArray.empty) 0 ⟨#[97]⟩
def R2 : Nat → List Nat := upd R1 1 [1]
def V2 : Nat → ByteArray := upd V1 1 ⟨#[98]⟩
def R3 : Nat → List Nat := upd R2 0 [0, 2]
def V3 : Nat → ByteArray := upd V2 2 ⟨#[99]⟩
def R4 : Nat → List Nat := upd R3 0 [2]
def V4 : Nat → ByteArray := upd V3 0 ByteArray.empty
variable (w : World) (b gl gr gf : Nat)
theorem k1 (h : Str.Lay w b gl gr gf 2 3 (fun _ => []) (fun _ => ByteArray.empty)) :
    Calls Try.prog 72 #[.pointer (some ⟨b, 0, none⟩), .int .i64 0, .string ⟨#[97]⟩] w fun e w' => e = .returned (.tuple #[.int .i64 0, .int .i64 0]) ∧ Str.Lay w' b gl gr gf 2 3 R1 V1 ∧ Only (Blk4 b gl gr gf) w w' :=
  Str.h_push w b gl gr gf 2 3 _ _ h 0 0 ⟨#[97]⟩ (by decide) (by decide) (fun m _ => Nat.zero_le m)
theorem k2 (h : Str.Lay w b gl gr gf 2 3 R1 V1) :
    Calls Try.prog 72 #[.pointer (some ⟨b, 0, none⟩), .int .i64 1, .string ⟨#[98]⟩] w fun e w' => e = .returned (.tuple #[.int .i64 1, .int .i64 0]) ∧ Str.Lay w' b gl gr gf 2 3 R2 V2 ∧ Only (Blk4 b gl gr gf) w w' :=
  Str.h_push w b gl gr gf 2 3 _ _ h 1 1 ⟨#[98]⟩ (by decide) (by decide) (fun m hm => by
    rcases m with _ | m
    · exact absurd hm (by decide)
    · omega)
theorem k3 (h : Str.Lay w b gl gr gf 2 3 R2 V2) :
    Calls Try.prog 72 #[.pointer (some ⟨b, 0, none⟩), .int .i64 0, .string ⟨#[99]⟩] w fun e w' => e = .returned (.tuple #[.int .i64 2, .int .i64 0]) ∧ Str.Lay w' b gl gr gf 2 3 R3 V3 ∧ Only (Blk4 b gl gr gf) w w' :=
  Str.h_push w b gl gr gf 2 3 _ _ h 0 2 ⟨#[99]⟩ (by decide) (by decide) (fun m hm => by
    rcases m with _ | _ | m
    · exact absurd hm (by decide)
    · exact absurd hm (by decide)
    · omega)
theorem k4 (h : Str.Lay w b gl gr gf 2 3 R3 V3) :
    Calls Try.prog 72 #[.pointer (some ⟨b, 0, none⟩), .int .i64 0, .string ⟨#[100]⟩] w fun e w' => e = .returned (.tuple #[.int .i64 0, .int .i64 40]) ∧ Only (fun _ => False) w w' :=
  Str.h_push_full w b gl gr gf 2 3 _ _ h 0 ⟨#[100]⟩ (by decide) (fun m hm => by
    have := hm.1
    rcases m with _ | _ | _ | m
    · exact absurd hm (by decide)
    · exact absurd hm (by decide)
    · exact absurd hm (by decide)
    · omega)
theorem k5 (h : Str.Lay w b gl gr gf 2 3 R3 V3) :
    Calls Try.prog 89 #[.pointer (some ⟨b, 0, none⟩), .int .i64 0] w fun e w' => e = .returned (.int .i64 2) ∧ w = w' :=
  Str.h_next w b gl gr gf 2 3 _ _ h 0 0 (by decide) [] [2] rfl
theorem k6 (h : Str.Lay w b gl gr gf 2 3 R3 V3) :
    Calls Try.prog 90 #[.pointer (some ⟨b, 0, none⟩), .int .i64 0] w fun e w' => e = .returned (.tuple #[.string ⟨#[97]⟩, .bool true]) ∧ Str.Lay w' b gl gr gf 2 3 R4 V4 ∧ Only (Blk4 b gl gr gf) w w' :=
  Str.h_take w b gl gr gf 2 3 _ _ h 0 0 (by decide) [] [2] rfl
theorem k7 (h : Str.Lay w b gl gr gf 2 3 R4 V4) :
    Calls Try.prog 91 #[.pointer (some ⟨b, 0, none⟩), .int .i64 0] w fun e w' => e = .returned (.int .i64 2) ∧ w = w' :=
  Str.h_first w b gl gr gf 2 3 _ _ h 0 (by decide)
end works

theorem Only.thenB {a b c : World} {S : Nat → Prop} {k gl gr gf : Nat} (h : Only S a b) (o : Only (Blk4 k gl gr gf) b c) (h1 : a.heap.size ≤ k) (h2 : a.heap.size ≤ gl) (h3 : a.heap.size ≤ gr) (h4 : a.heap.size ≤ gf) : Only S a c :=
  h.trans' o fun i hi hB => by unfold Blk4 at hB; omega

set_option maxHeartbeats 4000000 in
set_option maxRecDepth 100000 in
theorem works_walk (w : World) : Calls Try.prog 38 #[] w fun e w' => e = .returned (.bool true) ∧ Only (fun _ => False) w w' := by
  have S0 := fun W : World => Lib.hid (show Calls Try.prog 71 #[.int .i64 2, .int .i64 3] W (Str.HNew W 2 3) from Str.h_new W 2 3 (by omega) (by omega) (by omega))
  go_enter Try.func38, Try.ntmps38
  go_wp2_with fail
  refine (S0 _).out.mono ?_
  rintro e w1 ⟨b, gl, gr, gf, rfl, L1, o1, g1, g2, g3, g4⟩
  have L1 := Lib.hid L1
  go_wp2_with fail
  refine (works.k1 _ b gl gr gf L1.out).mono ?_
  rintro e w2 ⟨rfl, L2, o2⟩
  have L2 := Lib.hid L2
  go_wp2_with fail
  refine (works.k2 _ b gl gr gf L2.out).mono ?_
  rintro e w3 ⟨rfl, L3, o3⟩
  have L3 := Lib.hid L3
  go_wp2_with fail
  refine (works.k3 _ b gl gr gf L3.out).mono ?_
  rintro e w4 ⟨rfl, L4, o4⟩
  have L4 := Lib.hid L4
  go_wp2_with fail
  refine (works.k4 _ b gl gr gf L4.out).mono ?_
  rintro e w5 ⟨rfl, o5⟩
  have L5 := Lib.hid (L4.out.keep o5 (fun _ _ => id))
  go_wp2_with fail
  refine (works.k5 _ b gl gr gf L5.out).mono ?_
  rintro e w6 ⟨rfl, rfl⟩
  go_wp2_with fail
  refine (works.k6 _ b gl gr gf L5.out).mono ?_
  rintro e w7 ⟨rfl, L7, o7⟩
  have L7 := Lib.hid L7
  go_wp2_with fail
  refine (works.k7 _ b gl gr gf L7.out).mono ?_
  rintro e w8 ⟨rfl, rfl⟩
  go_wp2_with fail
  go_returns
  exact ⟨rfl, ((((o1.thenB o2 g1 g2 g3 g4).thenB o3 g1 g2 g3 g4).thenB o4 g1 g2 g3 g4).then0 o5).thenB o7 g1 g2 g3 g4⟩
end Go.Proofs.Ytiiflgihjnlmcaa
