/- A part of the walk: what this seat's statements share. -/
import Derived.Test.YtehjmakiljhjdaaZG6
set_option linter.unusedVariables false
set_option linter.unusedSimpArgs false
set_option linter.unusedSectionVars false
namespace Go.Proofs.Ytehjmakiljhjdaa
open Go Go.RowKit Go.Proofs.Ytehjmakiljhjdaa.VW
attribute [local irreducible] W Ops OrdA VW.Ord OrdX
/-- The first that p gives, among m numbers from j on. -/
def tryF (p : Nat → Option (List Int)) : Nat → Nat → Option (List Int)
  | 0, _ => none
  | m + 1, j => match p j with
    | some a => some a
    | none => tryF p m (j + 1)
/-- The first assignment that goes on behind l without a cost of more than x. -/
def fitsS (c : List (List Int)) (x : Int) : Nat → List Int → Option (List Int)
  | 0, l => some l
  | k + 1, l => tryF (fun j => if (c.getD l.length []).getD j 0 ≤ x ∧ ¬ (j : Int) ∈ l then fitsS c x k (l ++ [(j : Int)]) else none) c.length 0
def fitR (w w' : World) (r : Value) : Option (List Int) → Prop
  | none => r = .tuple #[.slice none 0 0, .bool false]
  | some a => ∃ v, r = .tuple #[v, .bool true] ∧ SlI w' v a
set_option maxHeartbeats 2000000 in
theorem fits_c {w0 : World} {cv : Value} {c : List (List Int)} {x : Int} (hM : RowsM w0 cv c) (hC : Cst c) : ∀ (k : Nat) (l : List Int) (w : World) (A : Option Addr) (m : Nat), l.length + k = c.length → l.length ≤ m → Below w0.heap.size w0 w → SlI w (.slice A l.length m) l →
    Calls Try.prog 56 #[cv, .int .i64 x, .slice A l.length m] w (Ret fun r w' => Below w.heap.size w w' ∧ fitR w w' r (fitsS c x k l)) := by
  have hn7 := hC.n7
  obtain ⟨Ac, cc, rfl⟩ := hM.sl
  intro k
  induction k with
  | zero =>
    intro l w A m hl hm hb hs
    have hl' : (l.length : Int) = c.length := by omega
    refine calls_W (vs := [_, _, _]) Try.func56 rfl (by kernel_rfl) rfl ?_
    (repeat (first | with_reducible refine W.seq ?_ | with_reducible refine Ops.nil ?_ | with_reducible refine W.region ?_ | refine z_p (kk := ?_) | refine z_a (kk := ?_) | refine z_y (kk := ?_) | refine z_n (kk := ?_) | refine z_u (kk := ?_) | with_reducible refine W.skip ?_ | with_reducible refine W.endb ?_ | with_reducible refine W.block ?_ | refine W.exit rfl ?_ | refine z_l (kk := ?_) | refine z_f (kk := ?_) | refine z_M (kk := ?_) | refine z_m (kk := ?_) | refine z_e (kk := ?_) | refine z_E (kk := ?_) | refine z_d (kk := ?_) | refine z_I (kk := fun _ => ?_) | refine z_J (kk := fun _ => ?_) | refine z_K (kk := fun _ => ?_) | refine z_L (kk := fun _ => ?_) | refine z_T (kk := ?_) | refine z_F (kk := ?_) | refine z_r (kk := fun _ _ _ _ => ?_) | refine z_D (kk := ?_) | refine z_B (kk := ?_) | refine z_S (kk := ?_) | refine z_Q (kk := ?_) | refine z_1 (kk := ?_) | refine z_O (kk := ?_) | refine z_2 (kk := ?_) | refine z_g (kk := ?_) | refine z_h (kk := ?_)))
    refine W.condT rfl (by first | rfl | assumption | (simp only [bnf] <;> omega) | (simp only [*, bnf]; done) | fail) ?_
    (repeat (first | with_reducible refine W.seq ?_ | with_reducible refine Ops.nil ?_ | with_reducible refine W.region ?_ | refine z_p (kk := ?_) | refine z_a (kk := ?_) | refine z_y (kk := ?_) | refine z_n (kk := ?_) | refine z_u (kk := ?_) | with_reducible refine W.skip ?_ | with_reducible refine W.endb ?_ | with_reducible refine W.block ?_ | refine W.exit rfl ?_ | refine z_l (kk := ?_) | refine z_f (kk := ?_) | refine z_M (kk := ?_) | refine z_m (kk := ?_) | refine z_e (kk := ?_) | refine z_E (kk := ?_) | refine z_d (kk := ?_) | refine z_I (kk := fun _ => ?_) | refine z_J (kk := fun _ => ?_) | refine z_K (kk := fun _ => ?_) | refine z_L (kk := fun _ => ?_) | refine z_T (kk := ?_) | refine z_F (kk := ?_) | refine z_r (kk := fun _ _ _ _ => ?_) | refine z_D (kk := ?_) | refine z_B (kk := ?_) | refine z_S (kk := ?_) | refine z_Q (kk := ?_) | refine z_1 (kk := ?_) | refine z_O (kk := ?_) | refine z_2 (kk := ?_) | refine z_g (kk := ?_) | refine z_h (kk := ?_)))
    exact W.fret rfl ⟨Below.refl _ _, _, rfl, hs⟩
  | succ k ih =>
    intro l w A m hl hm hb hs
    refine calls_W (vs := [_, _, _]) Try.func56 rfl (by kernel_rfl) rfl ?_
    have hrow : row c (l.length : Int) = c.getD l.length [] := by simp [row]
    have hcl := hC.len l.length (by omega)
    rw [← hrow] at hcl
    (repeat (first | with_reducible refine W.seq ?_ | with_reducible refine Ops.nil ?_ | with_reducible refine W.region ?_ | refine z_p (kk := ?_) | refine z_a (kk := ?_) | refine z_y (kk := ?_) | refine z_n (kk := ?_) | refine z_u (kk := ?_) | with_reducible refine W.skip ?_ | with_reducible refine W.endb ?_ | with_reducible refine W.block ?_ | refine W.exit rfl ?_ | refine z_l (kk := ?_) | refine z_f (kk := ?_) | refine z_M (kk := ?_) | refine z_m (kk := ?_) | refine z_e (kk := ?_) | refine z_E (kk := ?_) | refine z_d (kk := ?_) | refine z_I (kk := fun _ => ?_) | refine z_J (kk := fun _ => ?_) | refine z_K (kk := fun _ => ?_) | refine z_L (kk := fun _ => ?_) | refine z_T (kk := ?_) | refine z_F (kk := ?_) | refine z_r (kk := fun _ _ _ _ => ?_) | refine z_D (kk := ?_) | refine z_B (kk := ?_) | refine z_S (kk := ?_) | refine z_Q (kk := ?_) | refine z_1 (kk := ?_) | refine z_O (kk := ?_) | refine z_2 (kk := ?_) | refine z_g (kk := ?_) | refine z_h (kk := ?_)))
    refine W.condF rfl (by first | rfl | assumption | (simp only [bnf] <;> omega) | (simp only [*, bnf]; done) | fail) ?_
    (repeat (first | with_reducible refine W.seq ?_ | with_reducible refine Ops.nil ?_ | with_reducible refine W.region ?_ | refine z_p (kk := ?_) | refine z_a (kk := ?_) | refine z_y (kk := ?_) | refine z_n (kk := ?_) | refine z_u (kk := ?_) | with_reducible refine W.skip ?_ | with_reducible refine W.endb ?_ | with_reducible refine W.block ?_ | refine W.exit rfl ?_ | refine z_l (kk := ?_) | refine z_f (kk := ?_) | refine z_M (kk := ?_) | refine z_m (kk := ?_) | refine z_e (kk := ?_) | refine z_E (kk := ?_) | refine z_d (kk := ?_) | refine z_I (kk := fun _ => ?_) | refine z_J (kk := fun _ => ?_) | refine z_K (kk := fun _ => ?_) | refine z_L (kk := fun _ => ?_) | refine z_T (kk := ?_) | refine z_F (kk := ?_) | refine z_r (kk := fun _ _ _ _ => ?_) | refine z_D (kk := ?_) | refine z_B (kk := ?_) | refine z_S (kk := ?_) | refine z_Q (kk := ?_) | refine z_1 (kk := ?_) | refine z_O (kk := ?_) | refine z_2 (kk := ?_) | refine z_g (kk := ?_) | refine z_h (kk := ?_)))
    rename_i Ar mr pr hsr
    have hfit : fitsS c x (k + 1) l = tryF (fun j => if (row c (l.length : Int)).getD j 0 ≤ x ∧ ¬ (j : Int) ∈ l then fitsS c x k (l ++ [(j : Int)]) else none) c.length 0 := by rw [hrow]; rfl
    refine W.loop (fun mm ρ w1 => ∃ (j : Nat), mm = c.length - j ∧ j ≤ c.length ∧ tryF (fun j => if (row c (l.length : Int)).getD j 0 ≤ x ∧ ¬ (j : Int) ∈ l then fitsS c x k (l ++ [(j : Int)]) else none) (c.length - j) j = fitsS c x (k + 1) l ∧ ρ = [(0, .slice Ac c.length cc), (1, .int .i64 x), (2, .slice A l.length m), (22, .slice Ar (row c (l.length : Int)).length mr), (23, .int .i64 (row c (l.length : Int)).length), (24, .int .i64 j)] ∧ Below w.heap.size w w1)
      ⟨_, _, ⟨0, rfl, Nat.zero_le _, hfit.symm, rfl, Below.refl _ _⟩, (by repeat (first | exact trivial | refine And.intro rfl ?_))⟩ ?_
    rintro mm ρ w1 ⟨j, rfl, hj, htr, rfl, hb1⟩
    have hb01 := Below.via hb hb1
    have hs1 := Sl.below hs hb1
    (repeat (first | with_reducible refine W.seq ?_ | with_reducible refine Ops.nil ?_ | with_reducible refine W.region ?_ | refine z_p (kk := ?_) | refine z_a (kk := ?_) | refine z_y (kk := ?_) | refine z_n (kk := ?_) | refine z_u (kk := ?_) | with_reducible refine W.skip ?_ | with_reducible refine W.endb ?_ | with_reducible refine W.block ?_ | refine W.exit rfl ?_ | refine z_l (kk := ?_) | refine z_f (kk := ?_) | refine z_M (kk := ?_) | refine z_m (kk := ?_) | refine z_e (kk := ?_) | refine z_E (kk := ?_) | refine z_d (kk := ?_) | refine z_I (kk := fun _ => ?_) | refine z_J (kk := fun _ => ?_) | refine z_K (kk := fun _ => ?_) | refine z_L (kk := fun _ => ?_) | refine z_T (kk := ?_) | refine z_F (kk := ?_) | refine z_r (kk := fun _ _ _ _ => ?_) | refine z_D (kk := ?_) | refine z_B (kk := ?_) | refine z_S (kk := ?_) | refine z_Q (kk := ?_) | refine z_1 (kk := ?_) | refine z_O (kk := ?_) | refine z_2 (kk := ?_) | refine z_g (kk := ?_) | refine z_h (kk := ?_)))
    (first | refine W.condD rfl (fun hc => ?_) (fun hc => ?_) | refine W.condE rfl (fun hc => ?_) (fun hc => ?_) | refine W.condN rfl (fun hc => ?_) (fun hc => ?_) | refine W.cond rfl (fun hc => ?_) (fun hc => ?_))
    · have hjl : j < c.length := by omega
      obtain ⟨q, hq⟩ : ∃ q, c.length - j = q + 1 := ⟨c.length - j - 1, by omega⟩
      have hq' : c.length - (j + 1) = q := by omega
      rw [hq, tryF] at htr
      by_cases hle : (row c (l.length : Int)).getD j 0 ≤ x
      · by_cases hmem : (j : Int) ∈ l
        · rw [if_neg (fun h => h.2 hmem)] at htr
          (repeat (first | with_reducible refine W.seq ?_ | with_reducible refine Ops.nil ?_ | with_reducible refine W.region ?_ | refine z_p (kk := ?_) | refine z_a (kk := ?_) | refine z_y (kk := ?_) | refine z_n (kk := ?_) | refine z_u (kk := ?_) | with_reducible refine W.skip ?_ | with_reducible refine W.endb ?_ | with_reducible refine W.block ?_ | refine W.exit rfl ?_ | refine z_l (kk := ?_) | refine z_f (kk := ?_) | refine z_M (kk := ?_) | refine z_m (kk := ?_) | refine z_e (kk := ?_) | refine z_E (kk := ?_) | refine z_d (kk := ?_) | refine z_I (kk := fun _ => ?_) | refine z_J (kk := fun _ => ?_) | refine z_K (kk := fun _ => ?_) | refine z_L (kk := fun _ => ?_) | refine z_T (kk := ?_) | refine z_F (kk := ?_) | refine z_r (kk := fun _ _ _ _ => ?_) | refine z_D (kk := ?_) | refine z_B (kk := ?_) | refine z_S (kk := ?_) | refine z_Q (kk := ?_) | refine z_1 (kk := ?_) | refine z_O (kk := ?_) | refine z_2 (kk := ?_) | refine z_g (kk := ?_) | refine z_h (kk := ?_)))
          refine Ops.callS rfl rfl rfl rfl rfl (contains_c hs1) ?_
          rw [decide_eq_true hmem]
          (repeat (first | with_reducible refine W.seq ?_ | with_reducible refine Ops.nil ?_ | with_reducible refine W.region ?_ | refine z_p (kk := ?_) | refine z_a (kk := ?_) | refine z_y (kk := ?_) | refine z_n (kk := ?_) | refine z_u (kk := ?_) | with_reducible refine W.skip ?_ | with_reducible refine W.endb ?_ | with_reducible refine W.block ?_ | refine W.exit rfl ?_ | refine z_l (kk := ?_) | refine z_f (kk := ?_) | refine z_M (kk := ?_) | refine z_m (kk := ?_) | refine z_e (kk := ?_) | refine z_E (kk := ?_) | refine z_d (kk := ?_) | refine z_I (kk := fun _ => ?_) | refine z_J (kk := fun _ => ?_) | refine z_K (kk := fun _ => ?_) | refine z_L (kk := fun _ => ?_) | refine z_T (kk := ?_) | refine z_F (kk := ?_) | refine z_r (kk := fun _ _ _ _ => ?_) | refine z_D (kk := ?_) | refine z_B (kk := ?_) | refine z_S (kk := ?_) | refine z_Q (kk := ?_) | refine z_1 (kk := ?_) | refine z_O (kk := ?_) | refine z_2 (kk := ?_) | refine z_g (kk := ?_) | refine z_h (kk := ?_)))
          refine W.condF rfl (by first | rfl | assumption | (simp only [bnf] <;> omega) | (simp only [*, bnf]; done) | fail) ?_
          (repeat (first | with_reducible refine W.seq ?_ | with_reducible refine Ops.nil ?_ | with_reducible refine W.region ?_ | refine z_p (kk := ?_) | refine z_a (kk := ?_) | refine z_y (kk := ?_) | refine z_n (kk := ?_) | refine z_u (kk := ?_) | with_reducible refine W.skip ?_ | with_reducible refine W.endb ?_ | with_reducible refine W.block ?_ | refine W.exit rfl ?_ | refine z_l (kk := ?_) | refine z_f (kk := ?_) | refine z_M (kk := ?_) | refine z_m (kk := ?_) | refine z_e (kk := ?_) | refine z_E (kk := ?_) | refine z_d (kk := ?_) | refine z_I (kk := fun _ => ?_) | refine z_J (kk := fun _ => ?_) | refine z_K (kk := fun _ => ?_) | refine z_L (kk := fun _ => ?_) | refine z_T (kk := ?_) | refine z_F (kk := ?_) | refine z_r (kk := fun _ _ _ _ => ?_) | refine z_D (kk := ?_) | refine z_B (kk := ?_) | refine z_S (kk := ?_) | refine z_Q (kk := ?_) | refine z_1 (kk := ?_) | refine z_O (kk := ?_) | refine z_2 (kk := ?_) | refine z_g (kk := ?_) | refine z_h (kk := ?_)))
          exact W.endl ⟨_, _, ⟨⟨j + 1, rfl, by omega, by rw [hq']; exact htr, rfl, hb1⟩, by omega⟩, (by repeat (first | exact trivial | refine And.intro rfl ?_))⟩
        · rw [if_pos ⟨hle, hmem⟩] at htr
          (repeat (first | with_reducible refine W.seq ?_ | with_reducible refine Ops.nil ?_ | with_reducible refine W.region ?_ | refine z_p (kk := ?_) | refine z_a (kk := ?_) | refine z_y (kk := ?_) | refine z_n (kk := ?_) | refine z_u (kk := ?_) | with_reducible refine W.skip ?_ | with_reducible refine W.endb ?_ | with_reducible refine W.block ?_ | refine W.exit rfl ?_ | refine z_l (kk := ?_) | refine z_f (kk := ?_) | refine z_M (kk := ?_) | refine z_m (kk := ?_) | refine z_e (kk := ?_) | refine z_E (kk := ?_) | refine z_d (kk := ?_) | refine z_I (kk := fun _ => ?_) | refine z_J (kk := fun _ => ?_) | refine z_K (kk := fun _ => ?_) | refine z_L (kk := fun _ => ?_) | refine z_T (kk := ?_) | refine z_F (kk := ?_) | refine z_r (kk := fun _ _ _ _ => ?_) | refine z_D (kk := ?_) | refine z_B (kk := ?_) | refine z_S (kk := ?_) | refine z_Q (kk := ?_) | refine z_1 (kk := ?_) | refine z_O (kk := ?_) | refine z_2 (kk := ?_) | refine z_g (kk := ?_) | refine z_h (kk := ?_)))
          refine Ops.callS rfl rfl rfl rfl rfl (contains_c hs1) ?_
          rw [decide_eq_false hmem]
          (repeat (first | with_reducible refine W.seq ?_ | with_reducible refine Ops.nil ?_ | with_reducible refine W.region ?_ | refine z_p (kk := ?_) | refine z_a (kk := ?_) | refine z_y (kk := ?_) | refine z_n (kk := ?_) | refine z_u (kk := ?_) | with_reducible refine W.skip ?_ | with_reducible refine W.endb ?_ | with_reducible refine W.block ?_ | refine W.exit rfl ?_ | refine z_l (kk := ?_) | refine z_f (kk := ?_) | refine z_M (kk := ?_) | refine z_m (kk := ?_) | refine z_e (kk := ?_) | refine z_E (kk := ?_) | refine z_d (kk := ?_) | refine z_I (kk := fun _ => ?_) | refine z_J (kk := fun _ => ?_) | refine z_K (kk := fun _ => ?_) | refine z_L (kk := fun _ => ?_) | refine z_T (kk := ?_) | refine z_F (kk := ?_) | refine z_r (kk := fun _ _ _ _ => ?_) | refine z_D (kk := ?_) | refine z_B (kk := ?_) | refine z_S (kk := ?_) | refine z_Q (kk := ?_) | refine z_1 (kk := ?_) | refine z_O (kk := ?_) | refine z_2 (kk := ?_) | refine z_g (kk := ?_) | refine z_h (kk := ?_)))
          refine W.condT rfl (by first | rfl | assumption | (simp only [bnf] <;> omega) | (simp only [*, bnf]; done) | fail) ?_
          (repeat (first | with_reducible refine W.seq ?_ | with_reducible refine Ops.nil ?_ | with_reducible refine W.region ?_ | refine z_p (kk := ?_) | refine z_a (kk := ?_) | refine z_y (kk := ?_) | refine z_n (kk := ?_) | refine z_u (kk := ?_) | with_reducible refine W.skip ?_ | with_reducible refine W.endb ?_ | with_reducible refine W.block ?_ | refine W.exit rfl ?_ | refine z_l (kk := ?_) | refine z_f (kk := ?_) | refine z_M (kk := ?_) | refine z_m (kk := ?_) | refine z_e (kk := ?_) | refine z_E (kk := ?_) | refine z_d (kk := ?_) | refine z_I (kk := fun _ => ?_) | refine z_J (kk := fun _ => ?_) | refine z_K (kk := fun _ => ?_) | refine z_L (kk := fun _ => ?_) | refine z_T (kk := ?_) | refine z_F (kk := ?_) | refine z_r (kk := fun _ _ _ _ => ?_) | refine z_D (kk := ?_) | refine z_B (kk := ?_) | refine z_S (kk := ?_) | refine z_Q (kk := ?_) | refine z_1 (kk := ?_) | refine z_O (kk := ?_) | refine z_2 (kk := ?_) | refine z_g (kk := ?_) | refine z_h (kk := ?_)))
          refine Ops.sl3 rfl rfl rfl rfl rfl rfl rfl rfl hm ?_
          (repeat (first | with_reducible refine W.seq ?_ | with_reducible refine Ops.nil ?_ | with_reducible refine W.region ?_ | refine z_p (kk := ?_) | refine z_a (kk := ?_) | refine z_y (kk := ?_) | refine z_n (kk := ?_) | refine z_u (kk := ?_) | with_reducible refine W.skip ?_ | with_reducible refine W.endb ?_ | with_reducible refine W.block ?_ | refine W.exit rfl ?_ | refine z_l (kk := ?_) | refine z_f (kk := ?_) | refine z_M (kk := ?_) | refine z_m (kk := ?_) | refine z_e (kk := ?_) | refine z_E (kk := ?_) | refine z_d (kk := ?_) | refine z_I (kk := fun _ => ?_) | refine z_J (kk := fun _ => ?_) | refine z_K (kk := fun _ => ?_) | refine z_L (kk := fun _ => ?_) | refine z_T (kk := ?_) | refine z_F (kk := ?_) | refine z_r (kk := fun _ _ _ _ => ?_) | refine z_D (kk := ?_) | refine z_B (kk := ?_) | refine z_S (kk := ?_) | refine z_Q (kk := ?_) | refine z_1 (kk := ?_) | refine z_O (kk := ?_) | refine z_2 (kk := ?_) | refine z_g (kk := ?_) | refine z_h (kk := ?_)))
          have hs2 : SlI w1 (.slice A l.length l.length) l := by
            obtain ⟨h1, A', c', e, h2⟩ := hs1
            cases e
            exact ⟨h1, A, l.length, rfl, h2⟩
          refine Ops.pushG (enc := Value.int .i64) (u := (j : Int)) rfl rfl rfl rfl rfl rfl rfl rfl rfl rfl rfl rfl (fun _ => rfl) rfl (fun e => ?_) hs2 (by omega) (fun lv' p w2 hO2 => ?_)
          · subst e
            obtain ⟨_, A', c', e, h2⟩ := hs2
            cases e
            rcases Nat.eq_zero_or_pos l.length with h | h
            · exact h
            · obtain ⟨a, ha, _⟩ := h2 h; cases ha
          have hcap : ∃ A' m', lv' = .slice A' (l ++ [(j : Int)]).length m' ∧ (l ++ [(j : Int)]).length ≤ m' := by
            rcases hO2.own.2 with ⟨h1, h2⟩ | ⟨g, cap, cur, h1, _, _, h2, _⟩
            · exact ⟨_, _, by rw [h1, h2], by omega⟩
            · exact ⟨_, _, h1, h2⟩
          obtain ⟨A', m', rfl, hm'⟩ := hcap
          refine Ops.call rfl rfl rfl rfl rfl (ih (l ++ [(j : Int)]) w2 A' m' (by simp; omega) hm' (Below.via hb01 hO2.bel) hO2.sl) (fun r w3 hR => ?_)
          obtain ⟨hb3, hR⟩ := hR
          have hb13 := Below.via hb1 (Below.via hO2.bel hb3)
          cases hf : fitsS c x k (l ++ [(j : Int)]) with
          | none =>
            rw [hf] at hR htr
            have hr : r = .tuple #[.slice none 0 0, .bool false] := hR
            subst hr
            (repeat (first | with_reducible refine W.seq ?_ | with_reducible refine Ops.nil ?_ | with_reducible refine W.region ?_ | refine z_p (kk := ?_) | refine z_a (kk := ?_) | refine z_y (kk := ?_) | refine z_n (kk := ?_) | refine z_u (kk := ?_) | with_reducible refine W.skip ?_ | with_reducible refine W.endb ?_ | with_reducible refine W.block ?_ | refine W.exit rfl ?_ | refine z_l (kk := ?_) | refine z_f (kk := ?_) | refine z_M (kk := ?_) | refine z_m (kk := ?_) | refine z_e (kk := ?_) | refine z_E (kk := ?_) | refine z_d (kk := ?_) | refine z_I (kk := fun _ => ?_) | refine z_J (kk := fun _ => ?_) | refine z_K (kk := fun _ => ?_) | refine z_L (kk := fun _ => ?_) | refine z_T (kk := ?_) | refine z_F (kk := ?_) | refine z_r (kk := fun _ _ _ _ => ?_) | refine z_D (kk := ?_) | refine z_B (kk := ?_) | refine z_S (kk := ?_) | refine z_Q (kk := ?_) | refine z_1 (kk := ?_) | refine z_O (kk := ?_) | refine z_2 (kk := ?_) | refine z_g (kk := ?_) | refine z_h (kk := ?_)))
            refine W.condF rfl (by first | rfl | assumption | (simp only [bnf] <;> omega) | (simp only [*, bnf]; done) | fail) ?_
            (repeat (first | with_reducible refine W.seq ?_ | with_reducible refine Ops.nil ?_ | with_reducible refine W.region ?_ | refine z_p (kk := ?_) | refine z_a (kk := ?_) | refine z_y (kk := ?_) | refine z_n (kk := ?_) | refine z_u (kk := ?_) | with_reducible refine W.skip ?_ | with_reducible refine W.endb ?_ | with_reducible refine W.block ?_ | refine W.exit rfl ?_ | refine z_l (kk := ?_) | refine z_f (kk := ?_) | refine z_M (kk := ?_) | refine z_m (kk := ?_) | refine z_e (kk := ?_) | refine z_E (kk := ?_) | refine z_d (kk := ?_) | refine z_I (kk := fun _ => ?_) | refine z_J (kk := fun _ => ?_) | refine z_K (kk := fun _ => ?_) | refine z_L (kk := fun _ => ?_) | refine z_T (kk := ?_) | refine z_F (kk := ?_) | refine z_r (kk := fun _ _ _ _ => ?_) | refine z_D (kk := ?_) | refine z_B (kk := ?_) | refine z_S (kk := ?_) | refine z_Q (kk := ?_) | refine z_1 (kk := ?_) | refine z_O (kk := ?_) | refine z_2 (kk := ?_) | refine z_g (kk := ?_) | refine z_h (kk := ?_)))
            exact W.endl ⟨_, _, ⟨⟨j + 1, rfl, by omega, by rw [hq']; exact htr, rfl, hb13⟩, by omega⟩, (by repeat (first | exact trivial | refine And.intro rfl ?_))⟩
          | some a =>
            rw [hf] at hR htr
            obtain ⟨v, rfl, hv⟩ := hR
            (repeat (first | with_reducible refine W.seq ?_ | with_reducible refine Ops.nil ?_ | with_reducible refine W.region ?_ | refine z_p (kk := ?_) | refine z_a (kk := ?_) | refine z_y (kk := ?_) | refine z_n (kk := ?_) | refine z_u (kk := ?_) | with_reducible refine W.skip ?_ | with_reducible refine W.endb ?_ | with_reducible refine W.block ?_ | refine W.exit rfl ?_ | refine z_l (kk := ?_) | refine z_f (kk := ?_) | refine z_M (kk := ?_) | refine z_m (kk := ?_) | refine z_e (kk := ?_) | refine z_E (kk := ?_) | refine z_d (kk := ?_) | refine z_I (kk := fun _ => ?_) | refine z_J (kk := fun _ => ?_) | refine z_K (kk := fun _ => ?_) | refine z_L (kk := fun _ => ?_) | refine z_T (kk := ?_) | refine z_F (kk := ?_) | refine z_r (kk := fun _ _ _ _ => ?_) | refine z_D (kk := ?_) | refine z_B (kk := ?_) | refine z_S (kk := ?_) | refine z_Q (kk := ?_) | refine z_1 (kk := ?_) | refine z_O (kk := ?_) | refine z_2 (kk := ?_) | refine z_g (kk := ?_) | refine z_h (kk := ?_)))
            refine W.condT rfl (by first | rfl | assumption | (simp only [bnf] <;> omega) | (simp only [*, bnf]; done) | fail) ?_
            (repeat (first | with_reducible refine W.seq ?_ | with_reducible refine Ops.nil ?_ | with_reducible refine W.region ?_ | refine z_p (kk := ?_) | refine z_a (kk := ?_) | refine z_y (kk := ?_) | refine z_n (kk := ?_) | refine z_u (kk := ?_) | with_reducible refine W.skip ?_ | with_reducible refine W.endb ?_ | with_reducible refine W.block ?_ | refine W.exit rfl ?_ | refine z_l (kk := ?_) | refine z_f (kk := ?_) | refine z_M (kk := ?_) | refine z_m (kk := ?_) | refine z_e (kk := ?_) | refine z_E (kk := ?_) | refine z_d (kk := ?_) | refine z_I (kk := fun _ => ?_) | refine z_J (kk := fun _ => ?_) | refine z_K (kk := fun _ => ?_) | refine z_L (kk := fun _ => ?_) | refine z_T (kk := ?_) | refine z_F (kk := ?_) | refine z_r (kk := fun _ _ _ _ => ?_) | refine z_D (kk := ?_) | refine z_B (kk := ?_) | refine z_S (kk := ?_) | refine z_Q (kk := ?_) | refine z_1 (kk := ?_) | refine z_O (kk := ?_) | refine z_2 (kk := ?_) | refine z_g (kk := ?_) | refine z_h (kk := ?_)))
            exact W.fret rfl ⟨hb13, by rw [← htr]; exact ⟨v, rfl, hv⟩⟩
      · rw [if_neg (fun h => hle h.1)] at htr
        (repeat (first | with_reducible refine W.seq ?_ | with_reducible refine Ops.nil ?_ | with_reducible refine W.region ?_ | refine z_p (kk := ?_) | refine z_a (kk := ?_) | refine z_y (kk := ?_) | refine z_n (kk := ?_) | refine z_u (kk := ?_) | with_reducible refine W.skip ?_ | with_reducible refine W.endb ?_ | with_reducible refine W.block ?_ | refine W.exit rfl ?_ | refine z_l (kk := ?_) | refine z_f (kk := ?_) | refine z_M (kk := ?_) | refine z_m (kk := ?_) | refine z_e (kk := ?_) | refine z_E (kk := ?_) | refine z_d (kk := ?_) | refine z_I (kk := fun _ => ?_) | refine z_J (kk := fun _ => ?_) | refine z_K (kk := fun _ => ?_) | refine z_L (kk := fun _ => ?_) | refine z_T (kk := ?_) | refine z_F (kk := ?_) | refine z_r (kk := fun _ _ _ _ => ?_) | refine z_D (kk := ?_) | refine z_B (kk := ?_) | refine z_S (kk := ?_) | refine z_Q (kk := ?_) | refine z_1 (kk := ?_) | refine z_O (kk := ?_) | refine z_2 (kk := ?_) | refine z_g (kk := ?_) | refine z_h (kk := ?_)))
        refine W.condF rfl (by first | rfl | assumption | (simp only [bnf] <;> omega) | (simp only [*, bnf]; done) | fail) ?_
        (repeat (first | with_reducible refine W.seq ?_ | with_reducible refine Ops.nil ?_ | with_reducible refine W.region ?_ | refine z_p (kk := ?_) | refine z_a (kk := ?_) | refine z_y (kk := ?_) | refine z_n (kk := ?_) | refine z_u (kk := ?_) | with_reducible refine W.skip ?_ | with_reducible refine W.endb ?_ | with_reducible refine W.block ?_ | refine W.exit rfl ?_ | refine z_l (kk := ?_) | refine z_f (kk := ?_) | refine z_M (kk := ?_) | refine z_m (kk := ?_) | refine z_e (kk := ?_) | refine z_E (kk := ?_) | refine z_d (kk := ?_) | refine z_I (kk := fun _ => ?_) | refine z_J (kk := fun _ => ?_) | refine z_K (kk := fun _ => ?_) | refine z_L (kk := fun _ => ?_) | refine z_T (kk := ?_) | refine z_F (kk := ?_) | refine z_r (kk := fun _ _ _ _ => ?_) | refine z_D (kk := ?_) | refine z_B (kk := ?_) | refine z_S (kk := ?_) | refine z_Q (kk := ?_) | refine z_1 (kk := ?_) | refine z_O (kk := ?_) | refine z_2 (kk := ?_) | refine z_g (kk := ?_) | refine z_h (kk := ?_)))
        exact W.endl ⟨_, _, ⟨⟨j + 1, rfl, by omega, by rw [hq']; exact htr, rfl, hb1⟩, by omega⟩, (by repeat (first | exact trivial | refine And.intro rfl ?_))⟩
    · have hjl : j = c.length := by omega
      subst hjl
      rw [Nat.sub_self, tryF] at htr
      (repeat (first | with_reducible refine W.seq ?_ | with_reducible refine Ops.nil ?_ | with_reducible refine W.region ?_ | refine z_p (kk := ?_) | refine z_a (kk := ?_) | refine z_y (kk := ?_) | refine z_n (kk := ?_) | refine z_u (kk := ?_) | with_reducible refine W.skip ?_ | with_reducible refine W.endb ?_ | with_reducible refine W.block ?_ | refine W.exit rfl ?_ | refine z_l (kk := ?_) | refine z_f (kk := ?_) | refine z_M (kk := ?_) | refine z_m (kk := ?_) | refine z_e (kk := ?_) | refine z_E (kk := ?_) | refine z_d (kk := ?_) | refine z_I (kk := fun _ => ?_) | refine z_J (kk := fun _ => ?_) | refine z_K (kk := fun _ => ?_) | refine z_L (kk := fun _ => ?_) | refine z_T (kk := ?_) | refine z_F (kk := ?_) | refine z_r (kk := fun _ _ _ _ => ?_) | refine z_D (kk := ?_) | refine z_B (kk := ?_) | refine z_S (kk := ?_) | refine z_Q (kk := ?_) | refine z_1 (kk := ?_) | refine z_O (kk := ?_) | refine z_2 (kk := ?_) | refine z_g (kk := ?_) | refine z_h (kk := ?_)))
      exact W.fret rfl ⟨hb1, by rw [← htr]; rfl⟩
theorem grow_c {w : World} (i : Int) (h0 : 0 ≤ i) (h1 : i ≤ 1000000) : Calls Try.prog 85 #[.slice none 0 0, .int .i64 i] w (Ret fun r w' => OI 3 (Value.int .i64) w w' r []) := by
  refine calls_W (vs := [_, _]) Try.func85 rfl (by kernel_rfl) rfl ?_
  (repeat (first | with_reducible refine W.seq ?_ | with_reducible refine Ops.nil ?_ | with_reducible refine W.region ?_ | refine z_p (kk := ?_) | refine z_a (kk := ?_) | refine z_y (kk := ?_) | refine z_n (kk := ?_) | refine z_u (kk := ?_) | with_reducible refine W.skip ?_ | with_reducible refine W.endb ?_ | with_reducible refine W.block ?_ | refine W.exit rfl ?_ | refine z_l (kk := ?_) | refine z_f (kk := ?_) | refine z_M (kk := ?_) | refine z_m (kk := ?_) | refine z_e (kk := ?_) | refine z_E (kk := ?_) | refine z_d (kk := ?_) | refine z_I (kk := fun _ => ?_) | refine z_J (kk := fun _ => ?_) | refine z_K (kk := fun _ => ?_) | refine z_L (kk := fun _ => ?_) | refine z_T (kk := ?_) | refine z_F (kk := ?_) | refine z_r (kk := fun _ _ _ _ => ?_) | refine z_D (kk := ?_) | refine z_B (kk := ?_) | refine z_S (kk := ?_) | refine z_Q (kk := ?_) | refine z_1 (kk := ?_) | refine z_O (kk := ?_) | refine z_2 (kk := ?_) | refine z_g (kk := ?_) | refine z_h (kk := ?_)))
  refine W.condF rfl (by first | rfl | assumption | (simp only [bnf] <;> omega) | (simp only [*, bnf]; done) | fail) ?_
  (repeat (first | with_reducible refine W.seq ?_ | with_reducible refine Ops.nil ?_ | with_reducible refine W.region ?_ | refine z_p (kk := ?_) | refine z_a (kk := ?_) | refine z_y (kk := ?_) | refine z_n (kk := ?_) | refine z_u (kk := ?_) | with_reducible refine W.skip ?_ | with_reducible refine W.endb ?_ | with_reducible refine W.block ?_ | refine W.exit rfl ?_ | refine z_l (kk := ?_) | refine z_f (kk := ?_) | refine z_M (kk := ?_) | refine z_m (kk := ?_) | refine z_e (kk := ?_) | refine z_E (kk := ?_) | refine z_d (kk := ?_) | refine z_I (kk := fun _ => ?_) | refine z_J (kk := fun _ => ?_) | refine z_K (kk := fun _ => ?_) | refine z_L (kk := fun _ => ?_) | refine z_T (kk := ?_) | refine z_F (kk := ?_) | refine z_r (kk := fun _ _ _ _ => ?_) | refine z_D (kk := ?_) | refine z_B (kk := ?_) | refine z_S (kk := ?_) | refine z_Q (kk := ?_) | refine z_1 (kk := ?_) | refine z_O (kk := ?_) | refine z_2 (kk := ?_) | refine z_g (kk := ?_) | refine z_h (kk := ?_)))
  refine Ops.cap rfl rfl rfl rfl rfl ?_
  (repeat (first | with_reducible refine W.seq ?_ | with_reducible refine Ops.nil ?_ | with_reducible refine W.region ?_ | refine z_p (kk := ?_) | refine z_a (kk := ?_) | refine z_y (kk := ?_) | refine z_n (kk := ?_) | refine z_u (kk := ?_) | with_reducible refine W.skip ?_ | with_reducible refine W.endb ?_ | with_reducible refine W.block ?_ | refine W.exit rfl ?_ | refine z_l (kk := ?_) | refine z_f (kk := ?_) | refine z_M (kk := ?_) | refine z_m (kk := ?_) | refine z_e (kk := ?_) | refine z_E (kk := ?_) | refine z_d (kk := ?_) | refine z_I (kk := fun _ => ?_) | refine z_J (kk := fun _ => ?_) | refine z_K (kk := fun _ => ?_) | refine z_L (kk := fun _ => ?_) | refine z_T (kk := ?_) | refine z_F (kk := ?_) | refine z_r (kk := fun _ _ _ _ => ?_) | refine z_D (kk := ?_) | refine z_B (kk := ?_) | refine z_S (kk := ?_) | refine z_Q (kk := ?_) | refine z_1 (kk := ?_) | refine z_O (kk := ?_) | refine z_2 (kk := ?_) | refine z_g (kk := ?_) | refine z_h (kk := ?_)))
  (first | refine W.condD rfl (fun hc => ?_) (fun hc => ?_) | refine W.condE rfl (fun hc => ?_) (fun hc => ?_) | refine W.condN rfl (fun hc => ?_) (fun hc => ?_) | refine W.cond rfl (fun hc => ?_) (fun hc => ?_))
  · (repeat (first | with_reducible refine W.seq ?_ | with_reducible refine Ops.nil ?_ | with_reducible refine W.region ?_ | refine z_p (kk := ?_) | refine z_a (kk := ?_) | refine z_y (kk := ?_) | refine z_n (kk := ?_) | refine z_u (kk := ?_) | with_reducible refine W.skip ?_ | with_reducible refine W.endb ?_ | with_reducible refine W.block ?_ | refine W.exit rfl ?_ | refine z_l (kk := ?_) | refine z_f (kk := ?_) | refine z_M (kk := ?_) | refine z_m (kk := ?_) | refine z_e (kk := ?_) | refine z_E (kk := ?_) | refine z_d (kk := ?_) | refine z_I (kk := fun _ => ?_) | refine z_J (kk := fun _ => ?_) | refine z_K (kk := fun _ => ?_) | refine z_L (kk := fun _ => ?_) | refine z_T (kk := ?_) | refine z_F (kk := ?_) | refine z_r (kk := fun _ _ _ _ => ?_) | refine z_D (kk := ?_) | refine z_B (kk := ?_) | refine z_S (kk := ?_) | refine z_Q (kk := ?_) | refine z_1 (kk := ?_) | refine z_O (kk := ?_) | refine z_2 (kk := ?_) | refine z_g (kk := ?_) | refine z_h (kk := ?_)))
    refine Ops.cap rfl rfl rfl rfl rfl ?_
    refine Ops.slH rfl rfl rfl rfl rfl rfl rfl (by simp) (by simp) ?_
    (repeat (first | with_reducible refine W.seq ?_ | with_reducible refine Ops.nil ?_ | with_reducible refine W.region ?_ | refine z_p (kk := ?_) | refine z_a (kk := ?_) | refine z_y (kk := ?_) | refine z_n (kk := ?_) | refine z_u (kk := ?_) | with_reducible refine W.skip ?_ | with_reducible refine W.endb ?_ | with_reducible refine W.block ?_ | refine W.exit rfl ?_ | refine z_l (kk := ?_) | refine z_f (kk := ?_) | refine z_M (kk := ?_) | refine z_m (kk := ?_) | refine z_e (kk := ?_) | refine z_E (kk := ?_) | refine z_d (kk := ?_) | refine z_I (kk := fun _ => ?_) | refine z_J (kk := fun _ => ?_) | refine z_K (kk := fun _ => ?_) | refine z_L (kk := fun _ => ?_) | refine z_T (kk := ?_) | refine z_F (kk := ?_) | refine z_r (kk := fun _ _ _ _ => ?_) | refine z_D (kk := ?_) | refine z_B (kk := ?_) | refine z_S (kk := ?_) | refine z_Q (kk := ?_) | refine z_1 (kk := ?_) | refine z_O (kk := ?_) | refine z_2 (kk := ?_) | refine z_g (kk := ?_) | refine z_h (kk := ?_)))
    refine Ops.appZ rfl rfl rfl rfl rfl rfl rfl rfl rfl rfl rfl (by omega) (by omega) (fun r c w1 hr hcap hown k1 => ?_)
    (repeat (first | with_reducible refine W.seq ?_ | with_reducible refine Ops.nil ?_ | with_reducible refine W.region ?_ | refine z_p (kk := ?_) | refine z_a (kk := ?_) | refine z_y (kk := ?_) | refine z_n (kk := ?_) | refine z_u (kk := ?_) | with_reducible refine W.skip ?_ | with_reducible refine W.endb ?_ | with_reducible refine W.block ?_ | refine W.exit rfl ?_ | refine z_l (kk := ?_) | refine z_f (kk := ?_) | refine z_M (kk := ?_) | refine z_m (kk := ?_) | refine z_e (kk := ?_) | refine z_E (kk := ?_) | refine z_d (kk := ?_) | refine z_I (kk := fun _ => ?_) | refine z_J (kk := fun _ => ?_) | refine z_K (kk := fun _ => ?_) | refine z_L (kk := fun _ => ?_) | refine z_T (kk := ?_) | refine z_F (kk := ?_) | refine z_r (kk := fun _ _ _ _ => ?_) | refine z_D (kk := ?_) | refine z_B (kk := ?_) | refine z_S (kk := ?_) | refine z_Q (kk := ?_) | refine z_1 (kk := ?_) | refine z_O (kk := ?_) | refine z_2 (kk := ?_) | refine z_g (kk := ?_) | refine z_h (kk := ?_)))
    refine Ops.slH rfl rfl rfl rfl rfl rfl rfl (by simp) (by simp) ?_
    (repeat (first | with_reducible refine W.seq ?_ | with_reducible refine Ops.nil ?_ | with_reducible refine W.region ?_ | refine z_p (kk := ?_) | refine z_a (kk := ?_) | refine z_y (kk := ?_) | refine z_n (kk := ?_) | refine z_u (kk := ?_) | with_reducible refine W.skip ?_ | with_reducible refine W.endb ?_ | with_reducible refine W.block ?_ | refine W.exit rfl ?_ | refine z_l (kk := ?_) | refine z_f (kk := ?_) | refine z_M (kk := ?_) | refine z_m (kk := ?_) | refine z_e (kk := ?_) | refine z_E (kk := ?_) | refine z_d (kk := ?_) | refine z_I (kk := fun _ => ?_) | refine z_J (kk := fun _ => ?_) | refine z_K (kk := fun _ => ?_) | refine z_L (kk := fun _ => ?_) | refine z_T (kk := ?_) | refine z_F (kk := ?_) | refine z_r (kk := fun _ _ _ _ => ?_) | refine z_D (kk := ?_) | refine z_B (kk := ?_) | refine z_S (kk := ?_) | refine z_Q (kk := ?_) | refine z_1 (kk := ?_) | refine z_O (kk := ?_) | refine z_2 (kk := ?_) | refine z_g (kk := ?_) | refine z_h (kk := ?_)))
    refine W.fret rfl ⟨k1.below (Nat.le_refl _) (fun _ _ e => e), hown, fun k hk => ?_⟩
    simp [resV, Value.ownBlock] at hk
    omega
  · (repeat (first | with_reducible refine W.seq ?_ | with_reducible refine Ops.nil ?_ | with_reducible refine W.region ?_ | refine z_p (kk := ?_) | refine z_a (kk := ?_) | refine z_y (kk := ?_) | refine z_n (kk := ?_) | refine z_u (kk := ?_) | with_reducible refine W.skip ?_ | with_reducible refine W.endb ?_ | with_reducible refine W.block ?_ | refine W.exit rfl ?_ | refine z_l (kk := ?_) | refine z_f (kk := ?_) | refine z_M (kk := ?_) | refine z_m (kk := ?_) | refine z_e (kk := ?_) | refine z_E (kk := ?_) | refine z_d (kk := ?_) | refine z_I (kk := fun _ => ?_) | refine z_J (kk := fun _ => ?_) | refine z_K (kk := fun _ => ?_) | refine z_L (kk := fun _ => ?_) | refine z_T (kk := ?_) | refine z_F (kk := ?_) | refine z_r (kk := fun _ _ _ _ => ?_) | refine z_D (kk := ?_) | refine z_B (kk := ?_) | refine z_S (kk := ?_) | refine z_Q (kk := ?_) | refine z_1 (kk := ?_) | refine z_O (kk := ?_) | refine z_2 (kk := ?_) | refine z_g (kk := ?_) | refine z_h (kk := ?_)))
    exact W.fret rfl (OI.nil (Below.refl _ _))
theorem flat_step {c : List (List Int)} {i : Nat} (h : i < c.length) : (c.take (i + 1)).flatten = (c.take i).flatten ++ row c (i : Int) := by
  rw [List.take_succ_eq_append_getElem h, List.flatten_append]
  simp [row, List.getD_eq_getElem?_getD, h]
theorem flat_len {c : List (List Int)} (hC : Cst c) : ∀ i, i ≤ c.length → (c.take i).flatten.length = i * c.length
  | 0, _ => by simp
  | i + 1, h => by
    have hl := hC.len i (by omega)
    have hrow : row c (i : Int) = c.getD i [] := by simp [row]
    rw [flat_step (by omega), List.length_append, flat_len hC i (by omega), hrow, hl, Nat.succ_mul]
theorem concat_c {w : World} {cv : Value} {c : List (List Int)} (hM : RowsM w cv c) (hC : Cst c) : Calls Try.prog 54 #[cv] w (Ret fun v w' => OI 3 (Value.int .i64) w w' v c.flatten) := by
  have hn7 := hC.n7
  have hbig : ∀ i, i ≤ c.length → i * c.length ≤ 49 := fun i hi => Nat.le_trans (Nat.mul_le_mul hi (Nat.le_refl _)) (Nat.le_trans (Nat.mul_le_mul hn7 hn7) (by decide))
  obtain ⟨Ac, cc, rfl⟩ := hM.sl
  refine calls_W (vs := [_]) Try.func54 rfl (by kernel_rfl) rfl ?_
  (repeat (first | with_reducible refine W.seq ?_ | with_reducible refine Ops.nil ?_ | with_reducible refine W.region ?_ | refine z_p (kk := ?_) | refine z_a (kk := ?_) | refine z_y (kk := ?_) | refine z_n (kk := ?_) | refine z_u (kk := ?_) | with_reducible refine W.skip ?_ | with_reducible refine W.endb ?_ | with_reducible refine W.block ?_ | refine W.exit rfl ?_ | refine z_l (kk := ?_) | refine z_f (kk := ?_) | refine z_M (kk := ?_) | refine z_m (kk := ?_) | refine z_e (kk := ?_) | refine z_E (kk := ?_) | refine z_d (kk := ?_) | refine z_I (kk := fun _ => ?_) | refine z_J (kk := fun _ => ?_) | refine z_K (kk := fun _ => ?_) | refine z_L (kk := fun _ => ?_) | refine z_T (kk := ?_) | refine z_F (kk := ?_) | refine z_r (kk := fun _ _ _ _ => ?_) | refine z_D (kk := ?_) | refine z_B (kk := ?_) | refine z_S (kk := ?_) | refine z_Q (kk := ?_) | refine z_1 (kk := ?_) | refine z_O (kk := ?_) | refine z_2 (kk := ?_) | refine z_g (kk := ?_) | refine z_h (kk := ?_)))
  refine W.loop (fun m ρ w1 => ∃ j : Nat, m = c.length - j ∧ j ≤ c.length ∧ ρ = [(0, .slice Ac c.length cc), (3, .int .i64 ((c.take j).flatten.length : Nat)), (9, .slice Ac c.length cc), (10, .int .i64 c.length), (11, .int .i64 j)] ∧ w1 = w)
    ⟨_, _, ⟨0, rfl, Nat.zero_le _, rfl, rfl⟩, (by repeat (first | exact trivial | refine And.intro rfl ?_))⟩ ?_
  rintro m ρ w1 ⟨j, rfl, hj, rfl, rfl⟩
  have hlj := flat_len hC j hj
  have hbj := hbig j hj
  (repeat (first | with_reducible refine W.seq ?_ | with_reducible refine Ops.nil ?_ | with_reducible refine W.region ?_ | refine z_p (kk := ?_) | refine z_a (kk := ?_) | refine z_y (kk := ?_) | refine z_n (kk := ?_) | refine z_u (kk := ?_) | with_reducible refine W.skip ?_ | with_reducible refine W.endb ?_ | with_reducible refine W.block ?_ | refine W.exit rfl ?_ | refine z_l (kk := ?_) | refine z_f (kk := ?_) | refine z_M (kk := ?_) | refine z_m (kk := ?_) | refine z_e (kk := ?_) | refine z_E (kk := ?_) | refine z_d (kk := ?_) | refine z_I (kk := fun _ => ?_) | refine z_J (kk := fun _ => ?_) | refine z_K (kk := fun _ => ?_) | refine z_L (kk := fun _ => ?_) | refine z_T (kk := ?_) | refine z_F (kk := ?_) | refine z_r (kk := fun _ _ _ _ => ?_) | refine z_D (kk := ?_) | refine z_B (kk := ?_) | refine z_S (kk := ?_) | refine z_Q (kk := ?_) | refine z_1 (kk := ?_) | refine z_O (kk := ?_) | refine z_2 (kk := ?_) | refine z_g (kk := ?_) | refine z_h (kk := ?_)))
  (first | refine W.condD rfl (fun hc => ?_) (fun hc => ?_) | refine W.condE rfl (fun hc => ?_) (fun hc => ?_) | refine W.condN rfl (fun hc => ?_) (fun hc => ?_) | refine W.cond rfl (fun hc => ?_) (fun hc => ?_))
  · have hjl : j < c.length := by omega
    have hl1 := flat_len hC (j + 1) (by omega)
    rw [flat_step hjl, List.length_append] at hl1
    have hb1 := hbig (j + 1) (by omega)
    (repeat (first | with_reducible refine W.seq ?_ | with_reducible refine Ops.nil ?_ | with_reducible refine W.region ?_ | refine z_p (kk := ?_) | refine z_a (kk := ?_) | refine z_y (kk := ?_) | refine z_n (kk := ?_) | refine z_u (kk := ?_) | with_reducible refine W.skip ?_ | with_reducible refine W.endb ?_ | with_reducible refine W.block ?_ | refine W.exit rfl ?_ | refine z_l (kk := ?_) | refine z_f (kk := ?_) | refine z_M (kk := ?_) | refine z_m (kk := ?_) | refine z_e (kk := ?_) | refine z_E (kk := ?_) | refine z_d (kk := ?_) | refine z_I (kk := fun _ => ?_) | refine z_J (kk := fun _ => ?_) | refine z_K (kk := fun _ => ?_) | refine z_L (kk := fun _ => ?_) | refine z_T (kk := ?_) | refine z_F (kk := ?_) | refine z_r (kk := fun _ _ _ _ => ?_) | refine z_D (kk := ?_) | refine z_B (kk := ?_) | refine z_S (kk := ?_) | refine z_Q (kk := ?_) | refine z_1 (kk := ?_) | refine z_O (kk := ?_) | refine z_2 (kk := ?_) | refine z_g (kk := ?_) | refine z_h (kk := ?_)))
    refine W.condF rfl (by first | rfl | assumption | (simp only [bnf] <;> omega) | (simp only [*, bnf]; done) | fail) ?_
    (repeat (first | with_reducible refine W.seq ?_ | with_reducible refine Ops.nil ?_ | with_reducible refine W.region ?_ | refine z_p (kk := ?_) | refine z_a (kk := ?_) | refine z_y (kk := ?_) | refine z_n (kk := ?_) | refine z_u (kk := ?_) | with_reducible refine W.skip ?_ | with_reducible refine W.endb ?_ | with_reducible refine W.block ?_ | refine W.exit rfl ?_ | refine z_l (kk := ?_) | refine z_f (kk := ?_) | refine z_M (kk := ?_) | refine z_m (kk := ?_) | refine z_e (kk := ?_) | refine z_E (kk := ?_) | refine z_d (kk := ?_) | refine z_I (kk := fun _ => ?_) | refine z_J (kk := fun _ => ?_) | refine z_K (kk := fun _ => ?_) | refine z_L (kk := fun _ => ?_) | refine z_T (kk := ?_) | refine z_F (kk := ?_) | refine z_r (kk := fun _ _ _ _ => ?_) | refine z_D (kk := ?_) | refine z_B (kk := ?_) | refine z_S (kk := ?_) | refine z_Q (kk := ?_) | refine z_1 (kk := ?_) | refine z_O (kk := ?_) | refine z_2 (kk := ?_) | refine z_g (kk := ?_) | refine z_h (kk := ?_)))
    refine W.endl ⟨_, _, ⟨⟨j + 1, rfl, by omega, rfl, rfl⟩, by omega⟩, ⟨rfl, ?_, rfl, rfl, rfl, trivial⟩⟩
    rw [flat_step hjl, List.length_append]
    rfl
  · have hjl : j = c.length := by omega
    subst hjl
    rw [List.take_length] at hlj ⊢
    (repeat (first | with_reducible refine W.seq ?_ | with_reducible refine Ops.nil ?_ | with_reducible refine W.region ?_ | refine z_p (kk := ?_) | refine z_a (kk := ?_) | refine z_y (kk := ?_) | refine z_n (kk := ?_) | refine z_u (kk := ?_) | with_reducible refine W.skip ?_ | with_reducible refine W.endb ?_ | with_reducible refine W.block ?_ | refine W.exit rfl ?_ | refine z_l (kk := ?_) | refine z_f (kk := ?_) | refine z_M (kk := ?_) | refine z_m (kk := ?_) | refine z_e (kk := ?_) | refine z_E (kk := ?_) | refine z_d (kk := ?_) | refine z_I (kk := fun _ => ?_) | refine z_J (kk := fun _ => ?_) | refine z_K (kk := fun _ => ?_) | refine z_L (kk := fun _ => ?_) | refine z_T (kk := ?_) | refine z_F (kk := ?_) | refine z_r (kk := fun _ _ _ _ => ?_) | refine z_D (kk := ?_) | refine z_B (kk := ?_) | refine z_S (kk := ?_) | refine z_Q (kk := ?_) | refine z_1 (kk := ?_) | refine z_O (kk := ?_) | refine z_2 (kk := ?_) | refine z_g (kk := ?_) | refine z_h (kk := ?_)))
    refine Ops.call rfl rfl rfl rfl rfl (grow_c _ (by omega) (by omega)) (fun v w2 hI => ?_)
    (repeat (first | with_reducible refine W.seq ?_ | with_reducible refine Ops.nil ?_ | with_reducible refine W.region ?_ | refine z_p (kk := ?_) | refine z_a (kk := ?_) | refine z_y (kk := ?_) | refine z_n (kk := ?_) | refine z_u (kk := ?_) | with_reducible refine W.skip ?_ | with_reducible refine W.endb ?_ | with_reducible refine W.block ?_ | refine W.exit rfl ?_ | refine z_l (kk := ?_) | refine z_f (kk := ?_) | refine z_M (kk := ?_) | refine z_m (kk := ?_) | refine z_e (kk := ?_) | refine z_E (kk := ?_) | refine z_d (kk := ?_) | refine z_I (kk := fun _ => ?_) | refine z_J (kk := fun _ => ?_) | refine z_K (kk := fun _ => ?_) | refine z_L (kk := fun _ => ?_) | refine z_T (kk := ?_) | refine z_F (kk := ?_) | refine z_r (kk := fun _ _ _ _ => ?_) | refine z_D (kk := ?_) | refine z_B (kk := ?_) | refine z_S (kk := ?_) | refine z_Q (kk := ?_) | refine z_1 (kk := ?_) | refine z_O (kk := ?_) | refine z_2 (kk := ?_) | refine z_g (kk := ?_) | refine z_h (kk := ?_)))
    refine W.loop (fun m ρ w2 => ∃ (j : Nat) (v : Value), m = c.length - j ∧ j ≤ c.length ∧ ρ = [(6, v), (25, .slice Ac c.length cc), (26, .int .i64 c.length), (27, .int .i64 j)] ∧ OI 3 (Value.int .i64) w1 w2 v (c.take j).flatten)
      ⟨_, _, ⟨0, v, rfl, Nat.zero_le _, rfl, hI⟩, (by repeat (first | exact trivial | refine And.intro rfl ?_))⟩ ?_
    rintro m ρ w2 ⟨j, v, rfl, hj, rfl, hI⟩
    have hlj := flat_len hC j hj
    have hb2 := hI.bel
    (repeat (first | with_reducible refine W.seq ?_ | with_reducible refine Ops.nil ?_ | with_reducible refine W.region ?_ | refine z_p (kk := ?_) | refine z_a (kk := ?_) | refine z_y (kk := ?_) | refine z_n (kk := ?_) | refine z_u (kk := ?_) | with_reducible refine W.skip ?_ | with_reducible refine W.endb ?_ | with_reducible refine W.block ?_ | refine W.exit rfl ?_ | refine z_l (kk := ?_) | refine z_f (kk := ?_) | refine z_M (kk := ?_) | refine z_m (kk := ?_) | refine z_e (kk := ?_) | refine z_E (kk := ?_) | refine z_d (kk := ?_) | refine z_I (kk := fun _ => ?_) | refine z_J (kk := fun _ => ?_) | refine z_K (kk := fun _ => ?_) | refine z_L (kk := fun _ => ?_) | refine z_T (kk := ?_) | refine z_F (kk := ?_) | refine z_r (kk := fun _ _ _ _ => ?_) | refine z_D (kk := ?_) | refine z_B (kk := ?_) | refine z_S (kk := ?_) | refine z_Q (kk := ?_) | refine z_1 (kk := ?_) | refine z_O (kk := ?_) | refine z_2 (kk := ?_) | refine z_g (kk := ?_) | refine z_h (kk := ?_)))
    (first | refine W.condD rfl (fun hc => ?_) (fun hc => ?_) | refine W.condE rfl (fun hc => ?_) (fun hc => ?_) | refine W.condN rfl (fun hc => ?_) (fun hc => ?_) | refine W.cond rfl (fun hc => ?_) (fun hc => ?_))
    · have hjl : j < c.length := by omega
      have hl1 := flat_len hC (j + 1) (by omega)
      rw [flat_step hjl, List.length_append] at hl1
      have hb1 := hbig (j + 1) (by omega)
      (repeat (first | with_reducible refine W.seq ?_ | with_reducible refine Ops.nil ?_ | with_reducible refine W.region ?_ | refine z_p (kk := ?_) | refine z_a (kk := ?_) | refine z_y (kk := ?_) | refine z_n (kk := ?_) | refine z_u (kk := ?_) | with_reducible refine W.skip ?_ | with_reducible refine W.endb ?_ | with_reducible refine W.block ?_ | refine W.exit rfl ?_ | refine z_l (kk := ?_) | refine z_f (kk := ?_) | refine z_M (kk := ?_) | refine z_m (kk := ?_) | refine z_e (kk := ?_) | refine z_E (kk := ?_) | refine z_d (kk := ?_) | refine z_I (kk := fun _ => ?_) | refine z_J (kk := fun _ => ?_) | refine z_K (kk := fun _ => ?_) | refine z_L (kk := fun _ => ?_) | refine z_T (kk := ?_) | refine z_F (kk := ?_) | refine z_r (kk := fun _ _ _ _ => ?_) | refine z_D (kk := ?_) | refine z_B (kk := ?_) | refine z_S (kk := ?_) | refine z_Q (kk := ?_) | refine z_1 (kk := ?_) | refine z_O (kk := ?_) | refine z_2 (kk := ?_) | refine z_g (kk := ?_) | refine z_h (kk := ?_)))
      rename_i Ar mr pr hsr
      refine Ops.appO (enc := Value.int .i64) (w0 := w1) 0 rfl rfl rfl rfl rfl rfl rfl rfl rfl rfl hI hsr hb2 (fun _ => rfl) (by omega) (fun v' w3 hO _ _ => ?_)
      rw [← flat_step hjl] at hO
      (repeat (first | with_reducible refine W.seq ?_ | with_reducible refine Ops.nil ?_ | with_reducible refine W.region ?_ | refine z_p (kk := ?_) | refine z_a (kk := ?_) | refine z_y (kk := ?_) | refine z_n (kk := ?_) | refine z_u (kk := ?_) | with_reducible refine W.skip ?_ | with_reducible refine W.endb ?_ | with_reducible refine W.block ?_ | refine W.exit rfl ?_ | refine z_l (kk := ?_) | refine z_f (kk := ?_) | refine z_M (kk := ?_) | refine z_m (kk := ?_) | refine z_e (kk := ?_) | refine z_E (kk := ?_) | refine z_d (kk := ?_) | refine z_I (kk := fun _ => ?_) | refine z_J (kk := fun _ => ?_) | refine z_K (kk := fun _ => ?_) | refine z_L (kk := fun _ => ?_) | refine z_T (kk := ?_) | refine z_F (kk := ?_) | refine z_r (kk := fun _ _ _ _ => ?_) | refine z_D (kk := ?_) | refine z_B (kk := ?_) | refine z_S (kk := ?_) | refine z_Q (kk := ?_) | refine z_1 (kk := ?_) | refine z_O (kk := ?_) | refine z_2 (kk := ?_) | refine z_g (kk := ?_) | refine z_h (kk := ?_)))
      exact W.endl ⟨_, _, ⟨⟨j + 1, v', rfl, by omega, rfl, hO⟩, by omega⟩, (by repeat (first | exact trivial | refine And.intro rfl ?_))⟩
    · have hjl : j = c.length := by omega
      subst hjl
      rw [List.take_length] at hI
      (repeat (first | with_reducible refine W.seq ?_ | with_reducible refine Ops.nil ?_ | with_reducible refine W.region ?_ | refine z_p (kk := ?_) | refine z_a (kk := ?_) | refine z_y (kk := ?_) | refine z_n (kk := ?_) | refine z_u (kk := ?_) | with_reducible refine W.skip ?_ | with_reducible refine W.endb ?_ | with_reducible refine W.block ?_ | refine W.exit rfl ?_ | refine z_l (kk := ?_) | refine z_f (kk := ?_) | refine z_M (kk := ?_) | refine z_m (kk := ?_) | refine z_e (kk := ?_) | refine z_E (kk := ?_) | refine z_d (kk := ?_) | refine z_I (kk := fun _ => ?_) | refine z_J (kk := fun _ => ?_) | refine z_K (kk := fun _ => ?_) | refine z_L (kk := fun _ => ?_) | refine z_T (kk := ?_) | refine z_F (kk := ?_) | refine z_r (kk := fun _ _ _ _ => ?_) | refine z_D (kk := ?_) | refine z_B (kk := ?_) | refine z_S (kk := ?_) | refine z_Q (kk := ?_) | refine z_1 (kk := ?_) | refine z_O (kk := ?_) | refine z_2 (kk := ?_) | refine z_g (kk := ?_) | refine z_h (kk := ?_)))
      exact W.fret rfl hI
end Go.Proofs.Ytehjmakiljhjdaa
/- Plain: assignments whose costs are small; Hall's theorem. -/
namespace Go.Proofs.Ytehjmakiljhjdaa
open Go Go.RowKit Go.Proofs.Ytehjmakiljhjdaa.VW
theorem tryF_some {p : Nat → Option (List Int)} {a : List Int} : ∀ m j, tryF p m j = some a → ∃ q, j ≤ q ∧ q < j + m ∧ p q = some a ∧ ∀ q', j ≤ q' → q' < q → p q' = none
  | 0, j, h => by simp [tryF] at h
  | m + 1, j, h => by
    rw [tryF] at h
    cases hp : p j with
    | some b =>
      rw [hp] at h
      exact ⟨j, Nat.le_refl _, by omega, by rw [hp]; exact h, fun q' h1 h2 => by omega⟩
    | none =>
      rw [hp] at h
      obtain ⟨q, h1, h2, h3, h4⟩ := tryF_some m (j + 1) h
      refine ⟨q, by omega, by omega, h3, fun q' h5 h6 => ?_⟩
      by_cases e : q' = j
      · rw [e]; exact hp
      · exact h4 q' (by omega) h6
theorem tryF_none {p : Nat → Option (List Int)} : ∀ m j, tryF p m j = none → ∀ q, j ≤ q → q < j + m → p q = none
  | 0, j, h, q, h1, h2 => by omega
  | m + 1, j, h, q, h1, h2 => by
    rw [tryF] at h
    cases hp : p j with
    | some b => rw [hp] at h; cases h
    | none =>
      rw [hp] at h
      by_cases e : q = j
      · rw [e]; exact hp
      · exact tryF_none m (j + 1) h q (by omega) (by omega)
/-- What button i costs in a. -/
def costA (c : List (List Int)) (a : List Int) (i : Nat) : Int := (c.getD i []).getD (a.getD i 0).toNat 0
def OkA (c : List (List Int)) (x : Int) (a : List Int) : Prop := Asg a c.length ∧ ∀ i, i < c.length → costA c a i ≤ x
/-- The begin of an assignment. -/
def Pre (c : List (List Int)) (x : Int) (l : List Int) : Prop := ∀ i, i < l.length → (0 ≤ l.getD i 0 ∧ l.getD i 0 < c.length) ∧ (∀ k, k < i → l.getD k 0 ≠ l.getD i 0) ∧ costA c l i ≤ x
theorem appI_getD {xs : List Int} {z : Int} {j : Nat} (h : j < xs.length) : (xs ++ [z]).getD j 0 = xs.getD j 0 := appV_getD h
theorem appI_last {xs : List Int} {z : Int} : (xs ++ [z]).getD xs.length 0 = z := appV_last rfl
theorem Pre.snoc {c : List (List Int)} {x : Int} {l : List Int} {j : Nat} (h : Pre c x l) (hj : j < c.length) (hm : ¬ (j : Int) ∈ l) (hx : (c.getD l.length []).getD j 0 ≤ x) : Pre c x (l ++ [(j : Int)]) := by
  intro i hi
  rw [List.length_append, List.length_singleton] at hi
  by_cases e : i = l.length
  · subst e
    rw [appI_last]
    refine ⟨by omega, fun k hk => ?_, ?_⟩
    · rw [appI_getD hk]
      exact fun e => hm (by rw [← e]; exact getD_memI hk)
    · unfold costA
      rw [appI_last]
      exact hx
  · have h' := h i (by omega)
    rw [appI_getD (by omega)]
    refine ⟨h'.1, fun k hk => ?_, ?_⟩
    · rw [appI_getD (by omega)]
      exact h'.2.1 k hk
    · unfold costA
      rw [appI_getD (by omega)]
      exact h'.2.2
theorem fits_sound {c : List (List Int)} {x : Int} {a : List Int} : ∀ k l, l.length + k = c.length → Pre c x l → fitsS c x k l = some a → OkA c x a ∧ a.take l.length = l
  | 0, l, hl, hp, h => by
    rw [fitsS] at h
    have e := Option.some.inj h
    subst e
    have hl' : l.length = c.length := by omega
    exact ⟨⟨⟨hl', fun i hi => ⟨(hp i hi).1, (hp i hi).2.1⟩⟩, fun i hi => (hp i (by omega)).2.2⟩, List.take_length⟩
  | k + 1, l, hl, hp, h => by
    rw [fitsS] at h
    obtain ⟨q, h1, h2, h3, h4⟩ := tryF_some _ _ h
    split at h3
    · rename_i hc
      have := fits_sound k (l ++ [(q : Int)]) (by simp; omega) (hp.snoc (by omega) hc.2 hc.1) h3
      refine ⟨this.1, ?_⟩
      have h5 := congrArg (List.take l.length) this.2
      rw [List.take_take, List.take_append_of_le_length (Nat.le_refl _), List.take_length] at h5
      have e1 : min l.length (l ++ [(q : Int)]).length = l.length := by simp
      rw [e1] at h5
      exact h5
    · cases h3
theorem take_succI {a : List Int} {i : Nat} (h : i < a.length) : a.take (i + 1) = a.take i ++ [a.getD i 0] := by
  rw [List.take_succ_eq_append_getElem h]; simp [List.getD_eq_getElem?_getD, h]
theorem Asg.not_mem {a : List Int} {n i : Nat} (h : Asg a n) (hi : i < a.length) : ¬ a.getD i 0 ∈ a.take i := fun hm => by
  obtain ⟨k, hk, e⟩ := (take_mem (by omega)).1 hm
  exact (h.2 i hi).2 k hk e
theorem fits_none {c : List (List Int)} {x : Int} : ∀ k l, l.length + k = c.length → fitsS c x k l = none → ∀ a, OkA c x a → a.take l.length ≠ l
  | 0, l, hl, h => by rw [fitsS] at h; cases h
  | k + 1, l, hl, h => fun a ha e => by
    rw [fitsS] at h
    have hlen : a.length = c.length := ha.1.1
    have hil : l.length < a.length := by omega
    have hr := (ha.1.2 l.length hil).1
    have hq := tryF_none _ _ h (a.getD l.length 0).toNat (by omega) (by omega)
    have hcast : ((a.getD l.length 0).toNat : Int) = a.getD l.length 0 := by omega
    rw [if_pos ⟨ha.2 l.length (by omega), by rw [hcast, ← e]; simp only [List.length_take]; rw [show min l.length a.length = l.length by omega]; exact ha.1.not_mem hil⟩] at hq
    refine fits_none k _ (by simp; omega) hq a ha ?_
    rw [hcast, List.length_append, List.length_singleton, take_succI hil, e]
theorem fits_none0 {c : List (List Int)} {x : Int} (h : fitsS c x c.length [] = none) (a : List Int) (ha : OkA c x a) : False := fits_none c.length [] (by simp) h a ha (by simp)
theorem fits_some0 {c : List (List Int)} {x : Int} {a : List Int} (h : fitsS c x c.length [] = some a) : OkA c x a := (fits_sound c.length [] (by simp) (fun i hi => by simp at hi) h).1
/-! ### Hall -/
def nbr (R : Nat → Nat → Bool) (A : List Nat) (S : Nat → Bool) (h : Nat) : Bool := A.any fun a => S a && R a h
def Hall (R : Nat → Nat → Bool) (A H : List Nat) : Prop := ∀ S : Nat → Bool, (A.filter S).length ≤ (H.filter (nbr R A S)).length
theorem filter_split (H : List Nat) (p q : Nat → Bool) : (H.filter p).length = (H.filter fun h => p h && q h).length + (H.filter fun h => p h && !q h).length := by
  induction H with
  | nil => rfl
  | cons x r ih =>
    simp only [List.filter_cons]
    cases p x <;> cases q x <;> simp <;> omega
theorem filter_mono (H : List Nat) {p q : Nat → Bool} (h : ∀ x, x ∈ H → p x = true → q x = true) : (H.filter p).length ≤ (H.filter q).length := by
  induction H with
  | nil => simp
  | cons x r ih =>
    have ih := ih (fun y hy => h y (List.mem_cons_of_mem _ hy))
    simp only [List.filter_cons]
    have hx := h x (by simp)
    cases hp : p x <;> cases hq : q x <;> simp [hp, hq] at hx ⊢ <;> omega
theorem filter_ne (H : List Nat) (hn : H.Nodup) (p : Nat → Bool) (h : Nat) : (H.filter p).length ≤ ((H.filter fun x => x != h).filter p).length + 1 := by
  induction H with
  | nil => simp
  | cons x r ih =>
    rw [List.nodup_cons] at hn
    by_cases e : x = h
    · subst e
      have : (r.filter fun y => y != x) = r := by
        rw [List.filter_eq_self]
        intro y hy
        simp only [bne_iff_ne]
        exact fun e => hn.1 (e ▸ hy)
      simp only [List.filter_cons, bne_self_eq_false, Bool.false_eq_true, if_false, this]
      split <;> simp
    · have ih := ih hn.2
      have hb : (x != h) = true := by simpa using e
      simp only [List.filter_cons, hb, if_true]
      split
      · simp only [List.length_cons]; omega
      · exact ih
theorem nbr_iff {R : Nat → Nat → Bool} {A : List Nat} {S : Nat → Bool} {h : Nat} : nbr R A S h = true ↔ ∃ a, a ∈ A ∧ S a = true ∧ R a h = true := by
  simp [nbr, List.any_eq_true]
theorem hall {R : Nat → Nat → Bool} : ∀ (m : Nat) (A H : List Nat), A.length ≤ m → A.Nodup → H.Nodup → Hall R A H → ∃ f : Nat → Nat, (∀ a, a ∈ A → f a ∈ H ∧ R a (f a) = true) ∧ ∀ a b, a ∈ A → b ∈ A → f a = f b → a = b
  | _, [], H, _, _, _, _ => ⟨fun a => a, fun a ha => by simp at ha, fun a b ha => by simp at ha⟩
  | 0, a :: A, H, hl, _, _, _ => by simp at hl
  | m + 1, a :: A, H, hl, hA, hH, hh => by
    by_cases hcrit : ∃ S : Nat → Bool, 0 < ((a :: A).filter S).length ∧ ((a :: A).filter S).length < (a :: A).length ∧ (H.filter (nbr R (a :: A) S)).length ≤ ((a :: A).filter S).length
    · obtain ⟨S, h1, h2, h3⟩ := hcrit
      have e0 : (a :: A).filter (fun _ => true) = a :: A := List.filter_eq_self.2 (fun _ _ => rfl)
      have hsum : (a :: A).length = ((a :: A).filter S).length + ((a :: A).filter fun x => !S x).length := by
        have := filter_split (a :: A) (fun _ => true) S
        rw [e0] at this
        exact this
      have H1 : Hall R ((a :: A).filter S) (H.filter (nbr R (a :: A) S)) := by
        intro T
        have h4 := hh (fun x => S x && T x)
        have e1 : ((a :: A).filter S).filter T = (a :: A).filter fun x => S x && T x := by rw [List.filter_filter]; congr 1; funext x; cases S x <;> cases T x <;> rfl
        rw [e1]
        refine Nat.le_trans h4 ?_
        rw [List.filter_filter]
        refine filter_mono H (fun x hx hn => ?_)
        obtain ⟨b, hb, hS, hR⟩ := nbr_iff.1 hn
        simp only [Bool.and_eq_true] at hS ⊢
        exact ⟨nbr_iff.2 ⟨b, List.mem_filter.2 ⟨hb, hS.1⟩, hS.2, hR⟩, nbr_iff.2 ⟨b, hb, hS.1, hR⟩⟩
      have H2 : Hall R ((a :: A).filter fun x => !S x) (H.filter fun x => !nbr R (a :: A) S x) := by
        intro T
        have h4 := hh (fun x => S x || T x)
        have e1 : ((a :: A).filter fun x => !S x).filter T = (a :: A).filter fun x => (S x || T x) && !S x := by rw [List.filter_filter]; congr 1; funext x; cases S x <;> cases T x <;> rfl
        have h5 := filter_split (a :: A) (fun x => S x || T x) S
        have e2 : ((a :: A).filter fun x => (S x || T x) && S x) = (a :: A).filter S := by congr 1; funext x; cases S x <;> cases T x <;> rfl
        rw [e2] at h5
        have h6 := filter_split H (nbr R (a :: A) fun x => S x || T x) (nbr R (a :: A) S)
        have h7 : (H.filter fun h => nbr R (a :: A) (fun x => S x || T x) h && nbr R (a :: A) S h).length ≤ (H.filter (nbr R (a :: A) S)).length := filter_mono H (fun x _ h => by simp only [Bool.and_eq_true] at h; exact h.2)
        have h8 : (H.filter fun h => nbr R (a :: A) (fun x => S x || T x) h && !nbr R (a :: A) S h).length ≤ ((H.filter fun x => !nbr R (a :: A) S x).filter (nbr R ((a :: A).filter fun x => !S x) T)).length := by
          rw [List.filter_filter]
          refine filter_mono H (fun x _ h => ?_)
          simp only [Bool.and_eq_true, Bool.not_eq_true'] at h ⊢
          refine ⟨?_, h.2⟩
          obtain ⟨b, hb, hS, hR⟩ := nbr_iff.1 h.1
          have hSb : S b = false := by
            cases hs : S b with
            | false => rfl
            | true => have := nbr_iff.2 ⟨b, hb, hs, hR⟩; rw [h.2] at this; cases this
          refine nbr_iff.2 ⟨b, List.mem_filter.2 ⟨hb, by simp [hSb]⟩, ?_, hR⟩
          simpa [hSb] using hS
        rw [e1]
        omega
      have l1 : ((a :: A).filter S).length ≤ m := by omega
      have l2 : ((a :: A).filter fun x => !S x).length ≤ m := by omega
      obtain ⟨f1, g1, g2⟩ := hall m _ _ l1 (hA.filter _) (hH.filter _) H1
      obtain ⟨f2, g3, g4⟩ := hall m _ _ l2 (hA.filter _) (hH.filter _) H2
      refine ⟨fun b => if S b then f1 b else f2 b, fun b hb => ?_, fun b d hb hd e => ?_⟩
      · cases hs : S b with
        | true =>
          have := g1 b (List.mem_filter.2 ⟨hb, hs⟩)
          simp only [hs, if_true]
          exact ⟨(List.mem_filter.1 this.1).1, this.2⟩
        | false =>
          have := g3 b (List.mem_filter.2 ⟨hb, by simp [hs]⟩)
          simp only [hs, Bool.false_eq_true, if_false]
          exact ⟨(List.mem_filter.1 this.1).1, this.2⟩
      · cases hs : S b <;> cases ht : S d <;> simp only [hs, ht, Bool.false_eq_true, if_false, if_true] at e
        · exact g4 b d (List.mem_filter.2 ⟨hb, by simp [hs]⟩) (List.mem_filter.2 ⟨hd, by simp [ht]⟩) e
        · have q1 := (List.mem_filter.1 (g3 b (List.mem_filter.2 ⟨hb, by simp [hs]⟩)).1).2
          have q2 := (List.mem_filter.1 (g1 d (List.mem_filter.2 ⟨hd, ht⟩)).1).2
          rw [e, q2] at q1; simp at q1
        · have q1 := (List.mem_filter.1 (g3 d (List.mem_filter.2 ⟨hd, by simp [ht]⟩)).1).2
          have q2 := (List.mem_filter.1 (g1 b (List.mem_filter.2 ⟨hb, hs⟩)).1).2
          rw [← e, q2] at q1; simp at q1
        · exact g2 b d (List.mem_filter.2 ⟨hb, hs⟩) (List.mem_filter.2 ⟨hd, ht⟩) e
    · have hnc : ∀ S : Nat → Bool, 0 < ((a :: A).filter S).length → ((a :: A).filter S).length < (a :: A).length → ((a :: A).filter S).length < (H.filter (nbr R (a :: A) S)).length := fun S h1 h2 => by
        rcases Nat.lt_or_ge ((a :: A).filter S).length (H.filter (nbr R (a :: A) S)).length with h | h
        · exact h
        · exact absurd ⟨S, h1, h2, h⟩ hcrit
      have hA' := List.nodup_cons.1 hA
      have hone := hh (fun x => x == a)
      have hpos : 0 < (H.filter (nbr R (a :: A) fun x => x == a)).length := by
        refine Nat.lt_of_lt_of_le ?_ hone
        simp
      obtain ⟨h, hmem⟩ := List.exists_mem_of_length_pos hpos
      obtain ⟨hhH, hhN⟩ := List.mem_filter.1 hmem
      have hR : R a h = true := by
        obtain ⟨b, hb, hS, hR⟩ := nbr_iff.1 hhN
        have : b = a := by simpa using hS
        rw [← this]; exact hR
      have H1 : Hall R A (H.filter fun x => x != h) := by
        intro T
        rcases Nat.eq_zero_or_pos (A.filter T).length with h0 | h0
        · omega
        have e1 : (a :: A).filter (fun x => T x && x != a) = A.filter T := by
          simp only [List.filter_cons, bne_self_eq_false, Bool.and_false, Bool.false_eq_true, if_false]
          refine List.filter_congr (fun x hx => ?_)
          have : (x != a) = true := by
            simp only [bne_iff_ne]
            exact fun e => hA'.1 (e ▸ hx)
          rw [this, Bool.and_true]
        have h4 := hnc (fun x => T x && x != a) (by rw [e1]; exact h0) (by rw [e1]; have := List.length_filter_le T A; simp; omega)
        rw [e1] at h4
        have h5 := filter_ne H hH (nbr R (a :: A) fun x => T x && x != a) h
        have h6 : ((H.filter fun x => x != h).filter (nbr R (a :: A) fun x => T x && x != a)).length ≤ ((H.filter fun x => x != h).filter (nbr R A T)).length := filter_mono _ (fun x _ hn => by
          obtain ⟨b, hb, hS, hR⟩ := nbr_iff.1 hn
          simp only [Bool.and_eq_true, bne_iff_ne] at hS
          rcases List.mem_cons.1 hb with e | hb
          · exact absurd e hS.2
          · exact nbr_iff.2 ⟨b, hb, hS.1, hR⟩)
        omega
      obtain ⟨f, g1, g2⟩ := hall m A (H.filter fun x => x != h) (by simp at hl; omega) hA'.2 (hH.filter _) H1
      refine ⟨fun b => if b = a then h else f b, fun b hb => ?_, fun b d hb hd e => ?_⟩
      · by_cases e : b = a
        · subst e; simp only [if_true]; exact ⟨hhH, hR⟩
        · simp only [e, if_false]
          have := g1 b ((List.mem_cons.1 hb).resolve_left e)
          exact ⟨(List.mem_filter.1 this.1).1, this.2⟩
      · by_cases e1 : b = a <;> by_cases e2 : d = a <;> simp only [e1, e2, if_true, if_false] at e
        · rw [e1, e2]
        · have := (List.mem_filter.1 (g1 d ((List.mem_cons.1 hd).resolve_left e2)).1).2
          simp [← e] at this
        · have := (List.mem_filter.1 (g1 b ((List.mem_cons.1 hb).resolve_left e1)).1).2
          simp [e] at this
        · exact g2 b d ((List.mem_cons.1 hb).resolve_left e1) ((List.mem_cons.1 hd).resolve_left e2) e
end Go.Proofs.Ytehjmakiljhjdaa
/- Plain: blocks. -/
namespace Go.Proofs.Ytehjmakiljhjdaa
open Go Go.RowKit Go.Proofs.Ytehjmakiljhjdaa.VW
theorem nodup_sub {α : Type} [BEq α] [LawfulBEq α] : ∀ (l1 l2 : List α), l1.Nodup → (∀ x, x ∈ l1 → x ∈ l2) → l1.length ≤ l2.length
  | [], _, _, _ => by simp
  | a :: l, l2, hn, h => by
    rw [List.nodup_cons] at hn
    have hm := h a (by simp)
    have ih := nodup_sub l (l2.erase a) hn.2 (fun x hx => by
      have hne : x ≠ a := fun e => hn.1 (e ▸ hx)
      exact (List.mem_erase_of_ne hne).2 (h x (by simp [hx])))
    rw [List.length_erase_of_mem hm] at ih
    have := List.length_pos_of_mem hm
    simp only [List.length_cons]
    omega
theorem addL_nodup {ks : List Int} {x : Int} (h : ks.Nodup) : (addL ks x).Nodup := by
  unfold addL
  split
  · exact h
  · rename_i hc
    rw [List.nodup_append]
    refine ⟨h, by simp, fun a ha b hb => ?_⟩
    simp only [List.mem_singleton] at hb
    subst hb
    exact fun e => hc (by rw [← e]; simpa using ha)
theorem addL_mem {ks : List Int} {x y : Int} : y ∈ addL ks x ↔ y ∈ ks ∨ y = x := by
  unfold addL
  split
  · rename_i hc
    have : x ∈ ks := by simpa using hc
    exact ⟨.inl, fun h => h.elim id fun e => e ▸ this⟩
  · simp
theorem rowH_spec {r : List Int} {w : Int} {ks : List Int} (hk : ks.Nodup) : ∀ m, (rowH r w ks m).Nodup ∧ ∀ y, y ∈ rowH r w ks m ↔ y ∈ ks ∨ ∃ j, j < m ∧ y = (j : Int) ∧ r.getD j 0 ≤ w
  | 0 => ⟨hk, fun y => by simp [rowH]⟩
  | m + 1 => by
    obtain ⟨h1, h2⟩ := rowH_spec (r := r) (w := w) hk m
    simp only [rowH]
    split
    · rename_i hle
      refine ⟨addL_nodup h1, fun y => ?_⟩
      rw [addL_mem, h2]
      constructor
      · rintro ((h | ⟨j, hj, e, hw⟩) | e)
        · exact .inl h
        · exact .inr ⟨j, by omega, e, hw⟩
        · exact .inr ⟨m, by omega, e, hle⟩
      · rintro (h | ⟨j, hj, e, hw⟩)
        · exact .inl (.inl h)
        · by_cases e2 : j = m
          · subst e2; exact .inr e
          · exact .inl (.inr ⟨j, by omega, e, hw⟩)
    · rename_i hle
      refine ⟨h1, fun y => ?_⟩
      rw [h2]
      constructor
      · rintro (h | ⟨j, hj, e, hw⟩)
        · exact .inl h
        · exact .inr ⟨j, by omega, e, hw⟩
      · rintro (h | ⟨j, hj, e, hw⟩)
        · exact .inl h
        · by_cases e2 : j = m
          · subst e2; exact absurd hw hle
          · exact .inr ⟨j, by omega, e, hw⟩
theorem holesH_spec {c : List (List Int)} {w : Int} {l : List Int} : ∀ k, (holesH c w l k).Nodup ∧ ∀ y, y ∈ holesH c w l k ↔ ∃ j, j < c.length ∧ y = (j : Int) ∧ ∃ q, q < k ∧ (c.getD (l.getD q 0).toNat []).getD j 0 ≤ w
  | 0 => ⟨by simp [holesH], fun y => by simp [holesH]⟩
  | k + 1 => by
    obtain ⟨h1, h2⟩ := holesH_spec (c := c) (w := w) (l := l) k
    obtain ⟨h3, h4⟩ := rowH_spec (r := c.getD (l.getD k 0).toNat []) (w := w) h1 c.length
    refine ⟨h3, fun y => ?_⟩
    rw [holesH, h4, h2]
    constructor
    · rintro (⟨j, hj, e, q, hq, hw⟩ | ⟨j, hj, e, hw⟩)
      · exact ⟨j, hj, e, q, by omega, hw⟩
      · exact ⟨j, hj, e, k, by omega, hw⟩
    · rintro ⟨j, hj, e, q, hq, hw⟩
      by_cases e2 : q = k
      · subst e2; exact .inr ⟨j, hj, e, hw⟩
      · exact .inl ⟨j, hj, e, q, by omega, hw⟩
def someB (c : List (List Int)) (w : Int) (l : List Int) (j : Nat) : Bool := l.any fun i => decide ((c.getD i.toNat []).getD j 0 ≤ w)
theorem someB_iff {c : List (List Int)} {w : Int} {l : List Int} {j : Nat} : someB c w l j = true ↔ ∃ q, q < l.length ∧ (c.getD (l.getD q 0).toNat []).getD j 0 ≤ w := by
  simp only [someB, List.any_eq_true, decide_eq_true_eq]
  constructor
  · rintro ⟨i, hi, h⟩
    obtain ⟨q, hq, e⟩ := mem_getDI hi
    exact ⟨q, hq, by rw [e]; exact h⟩
  · rintro ⟨q, hq, h⟩
    exact ⟨_, getD_memI hq, h⟩
theorem map_nodup {l : List Nat} (h : l.Nodup) : (l.map fun j : Nat => (j : Int)).Nodup := by
  induction l with
  | nil => simp
  | cons a l ih =>
    rw [List.nodup_cons] at h
    rw [List.map_cons, List.nodup_cons]
    refine ⟨fun hm => ?_, ih h.2⟩
    obtain ⟨b, hb, e⟩ := List.mem_map.1 hm
    have : b = a := by omega
    exact h.1 (this ▸ hb)
/-- The holes of a list of buttons, counted. -/
theorem holesH_len {c : List (List Int)} {w : Int} {l : List Int} : (holesH c w l l.length).length = ((List.range c.length).filter (someB c w l)).length := by
  obtain ⟨h1, h2⟩ := holesH_spec (c := c) (w := w) (l := l) l.length
  have e : ((List.range c.length).filter (someB c w l)).length = (((List.range c.length).filter (someB c w l)).map fun j : Nat => (j : Int)).length := by simp
  rw [e]
  apply Nat.le_antisymm
  · refine nodup_sub _ _ h1 (fun y hy => ?_)
    obtain ⟨j, hj, e, hq⟩ := (h2 y).1 hy
    exact List.mem_map.2 ⟨j, List.mem_filter.2 ⟨List.mem_range.2 hj, someB_iff.2 hq⟩, e.symm⟩
  · refine nodup_sub _ _ (map_nodup (List.nodup_range.filter _)) (fun y hy => ?_)
    obtain ⟨j, hj, e⟩ := List.mem_map.1 hy
    obtain ⟨hj1, hj2⟩ := List.mem_filter.1 hj
    exact (h2 y).2 ⟨j, List.mem_range.1 hj1, e.symm, someB_iff.1 hj2⟩
/-- The buttons whose bits are set. -/
def setL (s : Nat) : Nat → List Int
  | 0 => []
  | i + 1 => if s.testBit i then setL s i ++ [(i : Int)] else setL s i
theorem setL_spec {s : Nat} : ∀ m, (setL s m).length = ((List.range m).filter s.testBit).length ∧ (∀ y, y ∈ setL s m ↔ ∃ i, i < m ∧ y = (i : Int) ∧ s.testBit i = true) ∧ ∀ k, 0 < k → k < (setL s m).length → (setL s m).getD (k - 1) 0 < (setL s m).getD k 0
  | 0 => ⟨by simp [setL], fun y => by simp [setL], fun k h1 h2 => by simp [setL] at h2⟩
  | m + 1 => by
    obtain ⟨h1, h2, h3⟩ := setL_spec (s := s) m
    simp only [setL, List.range_succ, List.filter_append, List.filter_cons, List.filter_nil]
    cases hb : s.testBit m with
    | true =>
      simp only [if_true, List.length_append, List.length_singleton]
      refine ⟨by rw [h1], fun y => ?_, fun k hk1 hk2 => ?_⟩
      · rw [List.mem_append, List.mem_singleton, h2]
        constructor
        · rintro (⟨i, hi, e, ht⟩ | e)
          · exact ⟨i, by omega, e, ht⟩
          · exact ⟨m, by omega, e, hb⟩
        · rintro ⟨i, hi, e, ht⟩
          by_cases e2 : i = m
          · subst e2; exact .inr e
          · exact .inl ⟨i, by omega, e, ht⟩
      · by_cases e : k = (setL s m).length
        · subst e
          rw [appI_getD (by omega), appI_last]
          obtain ⟨i, hi, e, _⟩ := (h2 _).1 (getD_memI (c := setL s m) (i := (setL s m).length - 1) (by omega))
          omega
        · rw [appI_getD (by omega), appI_getD (by omega)]
          exact h3 k hk1 (by omega)
    | false =>
      simp only [Bool.false_eq_true, if_false, List.append_nil]
      refine ⟨h1, fun y => ?_, h3⟩
      rw [h2]
      constructor
      · rintro ⟨i, hi, e, ht⟩; exact ⟨i, by omega, e, ht⟩
      · rintro ⟨i, hi, e, ht⟩
        by_cases e2 : i = m
        · subst e2; rw [hb] at ht; cases ht
        · exact ⟨i, by omega, e, ht⟩
theorem setL_inOrd {s n : Nat} : inOrd n (setL s n) := fun k hk => by
  obtain ⟨h1, h2, h3⟩ := setL_spec (s := s) n
  refine ⟨?_, fun h0 => h3 k h0 hk⟩
  obtain ⟨i, hi, e, _⟩ := (h2 _).1 (getD_memI hk)
  omega
def maskS (S : Nat → Bool) : Nat → Nat
  | 0 => 0
  | n + 1 => if S n then maskS S n ||| 2 ^ n else maskS S n
theorem maskS_bit {S : Nat → Bool} (i : Nat) : ∀ n, (maskS S n).testBit i = (decide (i < n) && S i)
  | 0 => by simp [maskS]
  | n + 1 => by
    have ih := maskS_bit (S := S) i n
    simp only [maskS]
    cases hs : S n with
    | true =>
      simp only [if_true, Nat.testBit_or, Nat.testBit_two_pow, ih]
      by_cases e : i = n
      · subst e; simp [hs]
      · have e1 : decide (n = i) = false := decide_eq_false (fun h => e h.symm)
        have e2 : decide (i < n + 1) = decide (i < n) := by rw [decide_eq_decide]; omega
        rw [e1, e2, Bool.or_false]
    | false =>
      simp only [Bool.false_eq_true, if_false, ih]
      by_cases e : i = n
      · subst e; simp [hs]
      · have e2 : decide (i < n + 1) = decide (i < n) := by rw [decide_eq_decide]; omega
        rw [e2]
theorem maskS_lt {S : Nat → Bool} : ∀ n, maskS S n < 2 ^ n
  | 0 => by simp [maskS]
  | n + 1 => by
    have ih := maskS_lt (S := S) n
    have h1 : 2 ^ n < 2 ^ (n + 1) := Nat.pow_lt_pow_right (by omega) (by omega)
    simp only [maskS]
    split
    · exact Nat.or_lt_two_pow (by omega) h1
    · omega
/-- No assignment stays within x: there is a block. -/
theorem block_ex {c : List (List Int)} {x : Int} (h : ∀ a, ¬ OkA c x a) : ∃ s, 1 ≤ s ∧ s < 2 ^ c.length ∧ BlkS c x (setL s c.length) := by
  by_cases hh : Hall (fun i j => decide ((c.getD i []).getD j 0 ≤ x)) (List.range c.length) (List.range c.length)
  · exfalso
    obtain ⟨f, h1, h2⟩ := hall c.length _ _ (by simp) List.nodup_range List.nodup_range hh
    have hget : ∀ i, i < c.length → ((List.range c.length).map fun i => (f i : Int)).getD i 0 = f i := fun i hi => by simp [List.getD_eq_getElem?_getD, hi]
    have h1' : ∀ i, i < c.length → f i < c.length ∧ (c.getD i []).getD (f i) 0 ≤ x := fun i hi => by
      have := h1 i (List.mem_range.2 hi)
      exact ⟨List.mem_range.1 this.1, by simpa using this.2⟩
    refine h ((List.range c.length).map fun i => (f i : Int)) ⟨⟨by simp, fun i hi => ?_⟩, fun i hi => ?_⟩
    · simp only [List.length_map, List.length_range] at hi
      rw [hget i hi]
      have := h1' i hi
      refine ⟨by omega, fun k hk e => ?_⟩
      rw [hget k (by omega)] at e
      have := h2 k i (List.mem_range.2 (by omega)) (List.mem_range.2 hi) (by omega)
      omega
    · unfold costA
      rw [hget i hi, Int.toNat_natCast]
      exact (h1' i hi).2
  · obtain ⟨S, hS⟩ : ∃ S : Nat → Bool, ((List.range c.length).filter (nbr (fun i j => decide ((c.getD i []).getD j 0 ≤ x)) (List.range c.length) S)).length < ((List.range c.length).filter S).length := by
      refine Classical.byContradiction fun hn => hh fun S => ?_
      rcases Nat.lt_or_ge ((List.range c.length).filter (nbr (fun i j => decide ((c.getD i []).getD j 0 ≤ x)) (List.range c.length) S)).length ((List.range c.length).filter S).length with h | h
      · exact absurd ⟨S, h⟩ hn
      · exact h
    have hbit : ∀ i, i ∈ List.range c.length → (maskS S c.length).testBit i = S i := fun i hi => by rw [maskS_bit, decide_eq_true (List.mem_range.1 hi), Bool.true_and]
    obtain ⟨g1, g2, _⟩ := setL_spec (s := maskS S c.length) c.length
    have hlen : (setL (maskS S c.length) c.length).length = ((List.range c.length).filter S).length := by rw [g1, List.filter_congr hbit]
    refine ⟨maskS S c.length, ?_, maskS_lt _, setL_inOrd, ?_⟩
    · rcases Nat.eq_zero_or_pos (maskS S c.length) with e | e
      · exfalso
        have hp : 0 < ((List.range c.length).filter S).length := by omega
        obtain ⟨i, hi⟩ := List.exists_mem_of_length_pos hp
        obtain ⟨hi1, hi2⟩ := List.mem_filter.1 hi
        have := hbit i hi1
        rw [e, hi2] at this
        simp at this
      · exact e
    · rw [holesH_len, hlen]
      refine Nat.lt_of_le_of_lt (filter_mono _ (fun j _ hj => ?_)) hS
      obtain ⟨q, hq, hw⟩ := someB_iff.1 hj
      obtain ⟨i, hi, e, ht⟩ := (g2 _).1 (getD_memI hq)
      rw [e, Int.toNat_natCast] at hw
      exact nbr_iff.2 ⟨i, List.mem_range.2 hi, by rw [← hbit i (List.mem_range.2 hi)]; exact ht, by simpa using hw⟩
/-- A greatest one. -/
theorem max_ex {g : Nat → Int} : ∀ n, 0 < n → ∃ i, i < n ∧ ∀ k, k < n → g k ≤ g i
  | 0, h => by omega
  | 1, _ => ⟨0, by omega, fun k hk => by have : k = 0 := by omega
                                         subst this; exact Int.le_refl _⟩
  | n + 2, _ => by
    obtain ⟨i, hi, h⟩ := max_ex (g := g) (n + 1) (by omega)
    by_cases e : g i ≤ g (n + 1)
    · refine ⟨n + 1, by omega, fun k hk => ?_⟩
      by_cases e2 : k = n + 1
      · subst e2; exact Int.le_refl _
      · exact Int.le_trans (h k (by omega)) e
    · refine ⟨i, by omega, fun k hk => ?_⟩
      by_cases e2 : k = n + 1
      · subst e2; omega
      · exact h k (by omega)
theorem ent_mem {c : List (List Int)} (hC : Cst c) {i j : Nat} (hi : i < c.length) (hj : j < c.length) : (c.getD i []).getD j 0 ∈ c.flatten := by
  have hl := hC.len i hi
  exact List.mem_flatten.2 ⟨_, getD_memR hi, getD_memI (by omega)⟩
theorem cost_mem {c : List (List Int)} (hC : Cst c) {a : List Int} (ha : Asg a c.length) {i : Nat} (hi : i < c.length) : costA c a i ∈ c.flatten := by
  have := (ha.2 i (by have := ha.1; omega)).1
  exact ent_mem hC hi (by omega)
/-- Nothing that is smaller fits: no assignment stays below. -/
theorem none_below {c : List (List Int)} (hC : Cst c) {x : Int} (h : ∀ y, y ∈ c.flatten → y < x → fitsS c y c.length [] = none) (a : List Int) : ¬ OkA c (x - 1) a := fun ha => by
  have hn := hC.n1
  obtain ⟨i, hi, hm⟩ := max_ex (g := costA c a) c.length (by omega)
  have h1 := ha.2 i hi
  exact fits_none0 (h _ (cost_mem hC ha.1 hi) (by omega)) a ⟨ha.1, hm⟩
theorem idn_asg (n : Nat) : Asg ((List.range n).map fun i : Nat => (i : Int)) n := by
  have hget : ∀ i, i < n → ((List.range n).map fun i : Nat => (i : Int)).getD i 0 = i := fun i hi => by simp [List.getD_eq_getElem?_getD, hi]
  refine ⟨by simp, fun i hi => ?_⟩
  simp only [List.length_map, List.length_range] at hi
  rw [hget i hi]
  exact ⟨by omega, fun k hk => by rw [hget k (by omega)]; omega⟩
theorem some_fits {c : List (List Int)} (hC : Cst c) : ∃ y, y ∈ c.flatten ∧ fitsS c y c.length [] ≠ none := by
  have hn := hC.n1
  have ha := idn_asg c.length
  obtain ⟨i, hi, hm⟩ := max_ex (g := costA c ((List.range c.length).map fun i : Nat => (i : Int))) c.length (by omega)
  exact ⟨_, cost_mem hC ha hi, fun h => fits_none0 h _ ⟨ha, hm⟩⟩
end Go.Proofs.Ytehjmakiljhjdaa
