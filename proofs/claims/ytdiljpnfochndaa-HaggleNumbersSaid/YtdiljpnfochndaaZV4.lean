/- A part of the walk: what this seat's statements share. -/
import Derived.Test.YtdiljpnfochndaaZV3
set_option linter.unusedSectionVars false
set_option linter.unusedVariables false
set_option linter.unusedSimpArgs false
/- The begin and the end of a function; regions whose order is drawn. -/
namespace Go.Proofs.Ytdiljpnfochndaa.VW
open Go Go.RowKit
def argE : List Value → Nat → E
  | [], _ => []
  | v :: r, i => (i, v) :: argE r (i + 1)
theorem look_argE : ∀ (l : List Value) (i t : Nat) (v : Value), look (argE l i) t = some v → i ≤ t ∧ l[t - i]? = some v
  | [], _, _, _, h => by simp [argE, look] at h
  | u :: r, i, t, v, h => by
    simp only [argE, look] at h
    cases hb : Nat.beq i t with
    | true =>
      rw [hb] at h
      have := Nat.eq_of_beq_eq_true hb
      subst this
      simp at h
      simp [h]
    | false =>
      rw [hb] at h
      have hne := Nat.ne_of_beq_eq_false hb
      obtain ⟨h1, h2⟩ := look_argE r (i + 1) t v h
      refine ⟨by omega, ?_⟩
      obtain ⟨m, rfl⟩ : ∃ m, t = i + 1 + m := ⟨t - (i + 1), by omega⟩
      rw [show i + 1 + m - i = m + 1 by omega]
      rw [show i + 1 + m - (i + 1) = m by omega] at h2
      simpa using h2
def resT : List ResultVar → E → Option (List Value)
  | [], _ => some []
  | .tmp t :: r, ρ => match look ρ t, resT r ρ with
    | some v, some vs => some (v :: vs)
    | _, _ => none
  | .cell _ _ :: _, _ => none
def resV : List Value → Value
  | [v] => v
  | vs => .tuple vs.toArray
/-- How a function ends whose results are slots. -/
def Fin (P : Program) (fn : Func) (R : Value → World → Prop) : Post := fun e ρ w => match e with
  | .ret => ∃ v, (∀ a, Rep fn.ntmps a ρ → (results fn a.tmps).run P w = .ok v w) ∧ R v w
  | .normal => ∃ v, (∀ a, Rep fn.ntmps a ρ → (results fn a.tmps).run P w = .ok v w) ∧ R v w
  | _ => False
theorem run_mapM {P : Program} {w : World} {n : Nat} {a : Act} {ρ : E} (hr : Rep n a ρ) : ∀ {l : List ResultVar} {vs : List Value}, resT l ρ = some vs →
    (l.mapM (m := Sem) fun | .tmp t => pure (a.tmps.getD t undef) | .cell b t => do loadVar t (← asAddr (a.tmps.getD b undef))).run P w = .ok vs w
  | [], vs, h => by simp [resT] at h; subst h; simp [Sem.run]
  | .tmp t :: r, vs, h => by
    simp only [resT] at h
    split at h
    · rename_i v us h1 h2
      simp at h
      subst h
      have ih := run_mapM (P := P) (w := w) hr h2
      rw [List.mapM_cons]
      simp only [Sem.run_bind, Sem.run_pure, Result.andThen_ok, ih, hr.slot t v h1]
    · simp at h
  | .cell _ _ :: _, _, h => by simp [resT] at h
theorem run_results {P : Program} {w : World} {fn : Func} {a : Act} {ρ : E} {vs : List Value} (hr : Rep fn.ntmps a ρ) (h : resT fn.results.toList ρ = some vs) : (results fn a.tmps).run P w = .ok (resV vs) w := by
  have := run_mapM (P := P) (w := w) hr h
  unfold results
  rw [Array.mapM_eq_mapM_toList]
  have e : (List.toArray <$> fn.results.toList.mapM (m := Sem) fun | .tmp t => pure (a.tmps.getD t undef) | .cell b t => do loadVar t (← asAddr (a.tmps.getD b undef))).run P w = .ok vs.toArray w := by
    rw [← bind_pure_comp]
    simp only [Sem.run_bind, this, Result.andThen_ok, Function.comp, Sem.run_pure]
  rw [Sem.run_bind]
  refine (congrArg (fun r => Result.andThen r _) e).trans ?_
  clear e this h
  match vs with
  | [] => rfl
  | [v] => rfl
  | v :: u :: r => rfl
theorem W.fret {P : Program} {ds : List Deferred} {k : List It} {ρ : E} {w : World} {fn : Func} {R : Value → World → Prop} {vs : List Value}
    (h : resT fn.results.toList ρ = some vs) (hR : R (resV vs) w) : W P fn.ntmps ds (.code .ret :: k) (Fin P fn R) ρ w :=
  W.ret ⟨_, fun _ hr => run_results hr h, hR⟩
theorem W.fend {P : Program} {ds : List Deferred} {ρ : E} {w : World} {fn : Func} {R : Value → World → Prop} {vs : List Value}
    (h : resT fn.results.toList ρ = some vs) (hR : R (resV vs) w) : W P fn.ntmps ds [] (Fin P fn R) ρ w :=
  ⟨_, fun _ hr => run_results hr h, hR⟩
/-- A call, from its first instruction on. -/
theorem calls_W {P : Program} {f : FuncId} {fn : Func} {c : Code} {vs : List Value} {w : World} {R : Value → World → Prop}
    (hf : P.funcs[f]? = some fn) (hb : fn.body = some c) (hin : inB fn.ntmps c = true) (hs : Nat.ble vs.length fn.ntmps = true)
    (h : W P fn.ntmps [] [.code c] (Fin P fn R) (argE vs 0) w) : Calls P f vs.toArray w (Ret R) := by
  have hs' : vs.length ≤ fn.ntmps := Nat.le_of_ble_eq_true hs
  refine calls_of_wp hf hb ?_
  have hrep : Rep fn.ntmps { tmps := vs.toArray ++ Array.replicate (fn.ntmps - vs.toArray.size) undef, defers := [] } (argE vs 0) := by
    refine ⟨by simp; omega, fun t v hl => ?_⟩
    obtain ⟨_, h2⟩ := look_argE vs 0 t v hl
    have ht : t < vs.length := by
      rw [Nat.sub_zero] at h2
      exact (List.getElem?_eq_some_iff.1 h2).1
    rw [Nat.sub_zero] at h2
    simp [Array.getD_eq_getD_getElem?, Array.getElem?_append, ht, h2]
    rw [List.getElem?_eq_getElem ht] at h2
    simpa using h2
  refine wp_mono (h hin _ hrep rfl) fun e a w' hl => ?_
  obtain ⟨ρ', hr', hd', hq⟩ := hl
  cases e with
  | normal =>
    obtain ⟨v, hv, hR⟩ : ∃ v, (∀ a, Rep fn.ntmps a ρ' → (results fn a.tmps).run P w' = .ok v w') ∧ R v w' := hq
    exact ⟨hd', v, hv a hr', v, rfl, hR⟩
  | ret =>
    obtain ⟨v, hv, hR⟩ : ∃ v, (∀ a, Rep fn.ntmps a ρ' → (results fn a.tmps).run P w' = .ok v w') ∧ R v w' := hq
    exact ⟨hd', v, hv a hr', v, rfl, hR⟩
  | _ => exact hq.elim
end Go.Proofs.Ytdiljpnfochndaa.VW
