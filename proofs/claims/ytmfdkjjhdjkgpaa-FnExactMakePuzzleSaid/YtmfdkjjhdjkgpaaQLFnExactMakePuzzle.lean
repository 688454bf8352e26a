/- The law FnExactMakePuzzle is proved as given: at every input it answers true, and its input reads as it did. -/
import Derived.Test.YtmfdkjjhdjkgpaaRows
import Derived.Test.YtmfdkjjhdjkgpaaQZak
import Derived.WalkKit
import Derived.ProofKit
import Derived.OpenShut
import Derived.ShutString
import Derived.ChangeOld
import Derived.Below
import Derived.Carry
import Derived.SizedLaws
namespace Go.Proofs.Ytmfdkjjhdjkgpaa.fnExactMakePuzzle
open Go Go.ChangeShapes Go.WideShapes Go.ChangeAt Go.RowKit
open Go.ChangeMaps (open_string shut_string)
theorem own : ownKnob Try.prog.godebug = none := by kernel_rfl
theorem laidOut : laidOutB Try.prog = true := by kernel_rfl
theorem res_true {B : Nat} {w : World} {b : Bool} {v : Value} (h : FreshDR B w (.one (aB b)) v) : v = .bool b := by
  obtain ⟨bs, h⟩ := h
  cases h with | c h1 h2 _ =>
  cases h1; rfl
set_option maxRecDepth 100000 in
theorem lifted (os : Os) (started : os.Started) (H : Type) (enc : TypeId × Value → H) :
    ReturnsInHanded {} Try.checked os 5 .any (Rows.fnExactMakePuzzleSpec.pre6 enc Try.prog Try.f5 Rows.fnExactMakePuzzleRow.domain false) (Rows.fnExactMakePuzzleSpec.post enc Try.prog Try.f5 false true false false) := by
  refine returnsInHanded_of_change_sized (C := Try.checked) own started (by kernel_rfl) Try.func5
    (ChangeSpec.witness6 (enc := enc) (C := Try.checked) false ⟨#[], #[.agg #[.int .i64 0, .int .i64 0, .slice none 0 0], .int .i64 0, .int .i64 0], []⟩ 8 (by kernel_rfl) (by kernel_rfl) (by kernel_rfl) (by kernel_rfl)) ?_
  intro W base args ds gs before hval0 hW hcnd hsz0 _
  have hval : ∀ (j : Nat) t v, Try.f5.params[j]? = some t → args[j]? = some v → Value.okWide Try.prog W .any base t v := hval0
  have hW' := hW
  obtain ⟨p, q, hA0, hV, rfl, hfz, hnd⟩ := hW
  have hA : DataW.TrodAll enc Try.prog W 0 (fun _ => true) true Try.f5.params.toList args.toList ds p := hA0
  rw [Try.params5] at hA hval
  obtain ⟨v0, vs0, d0, ds0, p0, q0, hargs, rfl, rfl, h0, r0⟩ := trodAll_cons hA
  obtain ⟨v1, vs1, d1, ds1, p1, q1, rfl, rfl, rfl, h1, r1⟩ := trodAll_cons r0
  obtain ⟨v2, vs2, d2, ds2, p2, q2, rfl, rfl, rfl, h2, r2⟩ := trodAll_cons r1
  obtain ⟨rfl, rfl, rfl⟩ := trodAll_nil r2
  obtain rfl : args = #[v0, v1, v2] := by cases args; simp_all
  obtain ⟨rfl, rfl⟩ := trodVars_none hV
  have k0 := h0
  have lt0 : ∀ x ∈ p0, x.block < W.heap.size := by obtain ⟨m, hm⟩ := k0; exact DataW.trod_lt m _ _ _ hm
  obtain ⟨x0, y0, z0⟩ := agg_of_trod (n := 8) (sh := [.int .i64, .int .i64, .slice [.int .i64, .int .i64, .int .i64]]) Try.underlying32 (by kernel_rfl) (hval 0 32 v0 rfl rfl) h0
  obtain ⟨a1, rfl, rfl, rfl, w1⟩ := open_int Try.underlying3 (hval 1 3 v1 rfl rfl) h1
  obtain ⟨a2, rfl, rfl, rfl, w2⟩ := open_int Try.underlying3 (hval 2 3 v2 rfl rfl) h2
  clear hA0 hval0 hsz0
  refine ((makeLaw x0 z0 a1 w1 a2 w2).2 W #[v0, .int .i64 a1, .int .i64 a2] rfl ?_).mono ?_
  · intro i x hx
    match i, hx with
    | 0, hx => obtain rfl := Option.some.inj hx; exact ⟨_, rfl, y0⟩
    | 1, hx => obtain rfl := Option.some.inj hx; exact ⟨_, rfl, (Rep.v _ rfl)⟩
    | 2, hx => obtain rfl := Option.some.inj hx; exact ⟨_, rfl, (Rep.v _ rfl)⟩
  · rintro e W' ⟨u, rfl, bel, hu⟩
    obtain rfl := res_true hu
    exact ⟨_, rfl, _, _, _, [], _, [], hW', trodAll_mk1 (shut_bool Try.underlying4 _), (trodAll_cons_mk (Below.trod laidOut (by kernel_rfl) (of_decide_eq_true (by kernel_rfl)) k0 bel lt0) (trodAll_cons_mk (shut_int Try.underlying3 w1) (trodAll_cons_mk (shut_int Try.underlying3 w2) trodAll_mk0))), rfl, bel.frame _, fun h => by cases h⟩
theorem over : Rows.fnExactMakePuzzleRow.holds Try.pinned (OpenSpec.ofChange Rows.fnExactMakePuzzleSpec) :=
  OpenClaim.holds_of_wide 5 Try.f5 rfl rfl rfl rfl rfl rfl rfl ⟨rfl, rfl, rfl, rfl, rfl⟩ rfl rfl rfl rfl rfl (by kernel_rfl) Try.func5 (by kernel_rfl)
    (of_decide_eq_true (by kernel_rfl)) (by unfold Func.isWrapper; first | (rw [if_pos (by decide +kernel)]; kernel_rfl) | (rw [if_neg (by decide +kernel)]; exact ⟨rfl, rfl⟩))
    (fun os started H enc _ => lifted os started H enc)
theorem proved : Rows.FnExactMakePuzzleSaid := over
#print axioms proved
end Go.Proofs.Ytmfdkjjhdjkgpaa.fnExactMakePuzzle
namespace Go.Proofs.Ytmfdkjjhdjkgpaa
/-- The row, under a short name, for the claim. -/
theorem fnExactMakePuzzle_holds : Rows.FnExactMakePuzzleSaid := fnExactMakePuzzle.proved
end Go.Proofs.Ytmfdkjjhdjkgpaa
