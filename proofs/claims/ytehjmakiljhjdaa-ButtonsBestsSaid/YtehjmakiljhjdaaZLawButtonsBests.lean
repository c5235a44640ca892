/- ButtonsBests: whatever the input, the statement's function returns true, and the input reads as it did. No condition. -/
import Derived.Test.YtehjmakiljhjdaaZG1
import Derived.Test.YtehjmakiljhjdaaZG2
import Derived.Test.YtehjmakiljhjdaaZG3
import Derived.Test.YtehjmakiljhjdaaZG4
import Derived.Test.YtehjmakiljhjdaaZG5
import Derived.Test.YtehjmakiljhjdaaZG6
import Derived.Test.YtehjmakiljhjdaaZG7
import Derived.Test.YtehjmakiljhjdaaZG8
import Derived.Test.YtehjmakiljhjdaaZG9
import Derived.Test.YtehjmakiljhjdaaZG10
import Derived.Test.YtehjmakiljhjdaaZG11
import Derived.Test.YtehjmakiljhjdaaZG12
import Derived.Test.YtehjmakiljhjdaaZG13
import Derived.Test.YtehjmakiljhjdaaRows
import Derived.WalkKit
import Derived.ProofKit
import Derived.OpenShut
import Derived.ShutString
import Derived.ChangeOld
import Derived.Below
import Derived.SizedLaws
namespace Go.Proofs.Ytehjmakiljhjdaa.buttonsBests
open Go.ChangeShapes Go.WideShapes Go.ChangeAt Go.RowKit Go.Proofs.Ytehjmakiljhjdaa Go.Proofs.Ytehjmakiljhjdaa.VW
set_option linter.unusedVariables false
theorem own : ownKnob Try.prog.godebug = none := by kernel_rfl
theorem laidOut : laidOutB Try.prog = true := by kernel_rfl
set_option maxRecDepth 100000 in
theorem lifted (os : Os) (started : os.Started) (H : Type) (enc : TypeId × Value → H) :
    ReturnsInHanded {} Try.checked os 11 .any ((Rows.buttonsBestsSpec).pre6 enc Try.prog Try.f11 Rows.buttonsBestsRow.domain false) ((Rows.buttonsBestsSpec).post enc Try.prog Try.f11 false true false false) := by
  refine returnsInHanded_of_change_sized (C := Try.checked) own started (by kernel_rfl) Try.func11
    (ChangeSpec.witness6 (enc := enc) (C := Try.checked) false ⟨#[], #[.slice none 0 0], []⟩ 8 (by kernel_rfl) (by kernel_rfl) (by kernel_rfl) (by kernel_rfl)) ?_
  intro W base args ds gs before hval0 hW hcnd hsz0 _
  have hval : ∀ (j : Nat) t v, Try.f11.params[j]? = some t → args[j]? = some v → Value.okWide Try.prog W .any base t v := hval0
  have hW' := hW
  obtain ⟨p, q, hA0, hV, rfl, hfz, hnd⟩ := hW
  have hA : DataW.TrodAll enc Try.prog W 0 (fun _ => true) true Try.f11.params.toList args.toList ds p := hA0
  rw [Try.params11] at hA hval
  obtain ⟨v0, vs0, d0, ds0, p0, q0, hargs, rfl, rfl, h0, r0⟩ := trodAll_cons hA
  obtain ⟨rfl, rfl, rfl⟩ := trodAll_nil r0
  obtain rfl : args = #[v0] := by cases args; simp_all
  obtain ⟨rfl, rfl⟩ := trodVars_none hV
  obtain ⟨a0, len0, cap0, rfl⟩ := okWide_slice Try.underlying22 (hval 0 22 v0 rfl rfl)
  have k0 := h0
  have lt0 : ∀ x ∈ p0, x.block < W.heap.size := by obtain ⟨m, hm⟩ := k0; exact DataW.trod_lt m _ _ _ hm
  obtain ⟨z0, w0⟩ := (h0.elim fun fuel hf => rows_arg Try.underlying22 Try.underlying23 Try.underlying3 (by kernel_rfl) (by kernel_rfl) hf)
  clear hA0 hval0 hsz0
  refine (bestsLaw_c w0).mono fun e W' ⟨vr, he, hvr, bel⟩ => ?_
  subst he
  subst hvr
  exact ⟨_, rfl, _, _, _, [], _, [], hW', trodAll_mk1 (shut_bool Try.underlying4 _), (trodAll_cons_mk (Below.trod laidOut (by kernel_rfl) (of_decide_eq_true (by kernel_rfl)) k0 bel lt0) trodAll_mk0), rfl, bel.frame _, fun h => by cases h⟩
theorem over : Rows.buttonsBestsRow.holds Try.pinned (OpenSpec.ofChange Rows.buttonsBestsSpec) :=
  OpenClaim.holds_of_wide 11 Try.f11 rfl rfl rfl rfl rfl rfl rfl ⟨rfl, rfl, rfl, rfl, rfl⟩ rfl rfl rfl rfl rfl (by kernel_rfl) Try.func11 (by kernel_rfl)
    (of_decide_eq_true (by kernel_rfl)) (by unfold Func.isWrapper; first | (rw [if_pos (by decide +kernel)]; kernel_rfl) | (rw [if_neg (by decide +kernel)]; exact ⟨rfl, rfl⟩))
    (fun os started H enc _ => lifted os started H enc)
end Go.Proofs.Ytehjmakiljhjdaa.buttonsBests
namespace Go.Proofs.Ytehjmakiljhjdaa
theorem buttonsBests_holds : Rows.ButtonsBestsSaid := buttonsBests.over
#print axioms buttonsBests_holds
end Go.Proofs.Ytehjmakiljhjdaa

