/- The law FnExactAllStrips is proved as given: at every input it answers true, and its input reads as it did. -/
import Derived.Test.YtmfdkjjhdjkgpaaRows
import Derived.Test.YtmfdkjjhdjkgpaaQZag
import Derived.WalkKit
import Derived.ProofKit
import Derived.OpenShut
import Derived.ShutString
import Derived.ChangeOld
import Derived.Below
import Derived.Carry
import Derived.SizedLaws
namespace Go.Proofs.Ytmfdkjjhdjkgpaa.fnExactAllStrips
open Go Go.ChangeShapes Go.WideShapes Go.ChangeAt Go.RowKit
open Go.ChangeMaps (open_string shut_string)
theorem own : ownKnob Try.prog.godebug = none := by kernel_rfl
theorem laidOut : laidOutB Try.prog = true := by kernel_rfl
theorem res_true {B : Nat} {w : World} {b : Bool} {v : Value} (h : FreshDR B w (.one (aB b)) v) : v = .bool b := by
  obtain ⟨bs, h⟩ := h
  cases h with | c h1 h2 _ =>
  cases h1; rfl
set_option maxRecDepth 100000 in
theorem lifted (os : Os) (started : os.Started) (H : Type) (enc : TypeId × Value → H) :
    ReturnsInHanded {} Try.checked os 3 .any (Rows.fnExactAllStripsSpec.pre6 enc Try.prog Try.f3 Rows.fnExactAllStripsRow.domain false) (Rows.fnExactAllStripsSpec.post enc Try.prog Try.f3 false true false false) := by
  refine returnsInHanded_of_change_sized (C := Try.checked) own started (by kernel_rfl) Try.func3
    (ChangeSpec.witness6 (enc := enc) (C := Try.checked) false ⟨#[], #[.int .i64 0, .int .i64 0], []⟩ 8 (by kernel_rfl) (by kernel_rfl) (by kernel_rfl) (by kernel_rfl)) ?_
  intro W base args ds gs before hval0 hW hcnd hsz0 _
  have hval : ∀ (j : Nat) t v, Try.f3.params[j]? = some t → args[j]? = some v → Value.okWide Try.prog W .any base t v := hval0
  have hW' := hW
  obtain ⟨p, q, hA0, hV, rfl, hfz, hnd⟩ := hW
  have hA : DataW.TrodAll enc Try.prog W 0 (fun _ => true) true Try.f3.params.toList args.toList ds p := hA0
  rw [Try.params3] at hA hval
  obtain ⟨v0, vs0, d0, ds0, p0, q0, hargs, rfl, rfl, h0, r0⟩ := trodAll_cons hA
  obtain ⟨v1, vs1, d1, ds1, p1, q1, rfl, rfl, rfl, h1, r1⟩ := trodAll_cons r0
  obtain ⟨rfl, rfl, rfl⟩ := trodAll_nil r1
  obtain rfl : args = #[v0, v1] := by cases args; simp_all
  obtain ⟨rfl, rfl⟩ := trodVars_none hV
  obtain ⟨a0, rfl, rfl, rfl, w0⟩ := open_int Try.underlying3 (hval 0 3 v0 rfl rfl) h0
  obtain ⟨a1, rfl, rfl, rfl, w1⟩ := open_int Try.underlying3 (hval 1 3 v1 rfl rfl) h1
  clear hA0 hval0 hsz0
  refine ((allLaw a0 w0 a1 w1).2 W #[.int .i64 a0, .int .i64 a1] rfl ?_).mono ?_
  · intro i x hx
    match i, hx with
    | 0, hx => obtain rfl := Option.some.inj hx; exact ⟨_, rfl, (Rep.v _ rfl)⟩
    | 1, hx => obtain rfl := Option.some.inj hx; exact ⟨_, rfl, (Rep.v _ rfl)⟩
  · rintro e W' ⟨u, rfl, bel, hu⟩
    obtain rfl := res_true hu
    exact ⟨_, rfl, _, _, _, [], _, [], hW', trodAll_mk1 (shut_bool Try.underlying4 _), (trodAll_cons_mk (shut_int Try.underlying3 w0) (trodAll_cons_mk (shut_int Try.underlying3 w1) trodAll_mk0)), rfl, bel.frame _, fun h => by cases h⟩
theorem over : Rows.fnExactAllStripsRow.holds Try.pinned (OpenSpec.ofChange Rows.fnExactAllStripsSpec) :=
  OpenClaim.holds_of_wide 3 Try.f3 rfl rfl rfl rfl rfl rfl rfl ⟨rfl, rfl, rfl, rfl, rfl⟩ rfl rfl rfl rfl rfl (by kernel_rfl) Try.func3 (by kernel_rfl)
    (of_decide_eq_true (by kernel_rfl)) (by unfold Func.isWrapper; first | (rw [if_pos (by decide +kernel)]; kernel_rfl) | (rw [if_neg (by decide +kernel)]; exact ⟨rfl, rfl⟩))
    (fun os started H enc _ => lifted os started H enc)
theorem proved : Rows.FnExactAllStripsSaid := over
#print axioms proved
end Go.Proofs.Ytmfdkjjhdjkgpaa.fnExactAllStrips
namespace Go.Proofs.Ytmfdkjjhdjkgpaa
/-- The row, under a short name, for the claim. -/
theorem fnExactAllStrips_holds : Rows.FnExactAllStripsSaid := fnExactAllStrips.proved
end Go.Proofs.Ytmfdkjjhdjkgpaa
