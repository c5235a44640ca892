/- A part of the walk: what this seat's statements share. -/
import Derived.Test.YtehjmakiljhjdaaZG11
import Derived.Test.YtehjmakiljhjdaaZG10
import Derived.Test.YtehjmakiljhjdaaZG5
import Derived.Test.YtehjmakiljhjdaaZG8
import Derived.Test.YtehjmakiljhjdaaZG2
set_option linter.unusedVariables false
set_option linter.unusedSimpArgs false
set_option linter.unusedSectionVars false
namespace Go.Proofs.Ytehjmakiljhjdaa
open Go Go.RowKit Go.Proofs.Ytehjmakiljhjdaa.VW
attribute [local irreducible] W Ops OrdA VW.Ord OrdX
theorem clone_c {w : World} {v : Value} {xs : List Int} (h : SlI w v xs) (hl : xs.length ≤ 100000) : Calls Try.prog 65 #[v] w (Ret fun r w' => OI 3 (Value.int .i64) w w' r xs) := by
  obtain ⟨A, c, rfl⟩ := Sl.shape h
  refine calls_W (vs := [_]) Try.func65 rfl (by kernel_rfl) rfl ?_
  (repeat (first | with_reducible refine W.seq ?_ | with_reducible refine Ops.nil ?_ | with_reducible refine W.region ?_ | refine z_p (kk := ?_) | refine z_a (kk := ?_) | refine z_y (kk := ?_) | refine z_n (kk := ?_) | refine z_u (kk := ?_) | with_reducible refine W.skip ?_ | with_reducible refine W.endb ?_ | with_reducible refine W.block ?_ | refine W.exit rfl ?_ | refine z_l (kk := ?_) | refine z_f (kk := ?_) | refine z_M (kk := ?_) | refine z_m (kk := ?_) | refine z_e (kk := ?_) | refine z_E (kk := ?_) | refine z_d (kk := ?_) | refine z_I (kk := fun _ => ?_) | refine z_J (kk := fun _ => ?_) | refine z_K (kk := fun _ => ?_) | refine z_L (kk := fun _ => ?_) | refine z_T (kk := ?_) | refine z_F (kk := ?_) | refine z_r (kk := fun _ _ _ _ => ?_) | refine z_D (kk := ?_) | refine z_g (kk := ?_) | refine z_h (kk := ?_)))
  refine Ops.evG rfl rfl rfl (EV.nilE rfl rfl rfl rfl) ?_
  (repeat (first | with_reducible refine W.seq ?_ | with_reducible refine Ops.nil ?_ | with_reducible refine W.region ?_ | refine z_p (kk := ?_) | refine z_a (kk := ?_) | refine z_y (kk := ?_) | refine z_n (kk := ?_) | refine z_u (kk := ?_) | with_reducible refine W.skip ?_ | with_reducible refine W.endb ?_ | with_reducible refine W.block ?_ | refine W.exit rfl ?_ | refine z_l (kk := ?_) | refine z_f (kk := ?_) | refine z_M (kk := ?_) | refine z_m (kk := ?_) | refine z_e (kk := ?_) | refine z_E (kk := ?_) | refine z_d (kk := ?_) | refine z_I (kk := fun _ => ?_) | refine z_J (kk := fun _ => ?_) | refine z_K (kk := fun _ => ?_) | refine z_L (kk := fun _ => ?_) | refine z_T (kk := ?_) | refine z_F (kk := ?_) | refine z_r (kk := fun _ _ _ _ => ?_) | refine z_D (kk := ?_) | refine z_g (kk := ?_) | refine z_h (kk := ?_)))
  cases A with
  | none =>
    have hx : xs = [] := by
      obtain ⟨_, A, c', e, hc⟩ := h
      by_cases hp : 0 < xs.length
      · obtain ⟨a, ea, _⟩ := hc hp
        simp only [Value.slice.injEq] at e
        rw [ea] at e
        simp at e
      · exact List.eq_nil_of_length_eq_zero (by omega)
    subst hx
    refine W.condT rfl (by first | rfl | assumption | (simp only [bnf] <;> omega) | (simp only [*, bnf]; done) | fail) ?_
    (repeat (first | with_reducible refine W.seq ?_ | with_reducible refine Ops.nil ?_ | with_reducible refine W.region ?_ | refine z_p (kk := ?_) | refine z_a (kk := ?_) | refine z_y (kk := ?_) | refine z_n (kk := ?_) | refine z_u (kk := ?_) | with_reducible refine W.skip ?_ | with_reducible refine W.endb ?_ | with_reducible refine W.block ?_ | refine W.exit rfl ?_ | refine z_l (kk := ?_) | refine z_f (kk := ?_) | refine z_M (kk := ?_) | refine z_m (kk := ?_) | refine z_e (kk := ?_) | refine z_E (kk := ?_) | refine z_d (kk := ?_) | refine z_I (kk := fun _ => ?_) | refine z_J (kk := fun _ => ?_) | refine z_K (kk := fun _ => ?_) | refine z_L (kk := fun _ => ?_) | refine z_T (kk := ?_) | refine z_F (kk := ?_) | refine z_r (kk := fun _ _ _ _ => ?_) | refine z_D (kk := ?_) | refine z_g (kk := ?_) | refine z_h (kk := ?_)))
    exact W.fret rfl (OI.nil (Below.refl _ _))
  | some a =>
    refine W.condF rfl (by first | rfl | assumption | (simp only [bnf] <;> omega) | (simp only [*, bnf]; done) | fail) ?_
    (repeat (first | with_reducible refine W.seq ?_ | with_reducible refine Ops.nil ?_ | with_reducible refine W.region ?_ | refine z_p (kk := ?_) | refine z_a (kk := ?_) | refine z_y (kk := ?_) | refine z_n (kk := ?_) | refine z_u (kk := ?_) | with_reducible refine W.skip ?_ | with_reducible refine W.endb ?_ | with_reducible refine W.block ?_ | refine W.exit rfl ?_ | refine z_l (kk := ?_) | refine z_f (kk := ?_) | refine z_M (kk := ?_) | refine z_m (kk := ?_) | refine z_e (kk := ?_) | refine z_E (kk := ?_) | refine z_d (kk := ?_) | refine z_I (kk := fun _ => ?_) | refine z_J (kk := fun _ => ?_) | refine z_K (kk := fun _ => ?_) | refine z_L (kk := fun _ => ?_) | refine z_T (kk := ?_) | refine z_F (kk := ?_) | refine z_r (kk := fun _ _ _ _ => ?_) | refine z_D (kk := ?_) | refine z_g (kk := ?_) | refine z_h (kk := ?_)))
    refine Ops.bs0 rfl rfl rfl rfl rfl (fun w1 r hM => ?_)
    have hO1 : OI 3 (Value.int .i64) w w1 (.slice (some ⟨r, 0, none⟩) 0 0) [] := ⟨Below.put (Below.refl _ _) hM.kp (fun _ e => e.elim), own_zero hM, fun k hk => by have := hM.r_eq; simp [Value.ownBlock] at hk; omega⟩
    (repeat (first | with_reducible refine W.seq ?_ | with_reducible refine Ops.nil ?_ | with_reducible refine W.region ?_ | refine z_p (kk := ?_) | refine z_a (kk := ?_) | refine z_y (kk := ?_) | refine z_n (kk := ?_) | refine z_u (kk := ?_) | with_reducible refine W.skip ?_ | with_reducible refine W.endb ?_ | with_reducible refine W.block ?_ | refine W.exit rfl ?_ | refine z_l (kk := ?_) | refine z_f (kk := ?_) | refine z_M (kk := ?_) | refine z_m (kk := ?_) | refine z_e (kk := ?_) | refine z_E (kk := ?_) | refine z_d (kk := ?_) | refine z_I (kk := fun _ => ?_) | refine z_J (kk := fun _ => ?_) | refine z_K (kk := fun _ => ?_) | refine z_L (kk := fun _ => ?_) | refine z_T (kk := ?_) | refine z_F (kk := ?_) | refine z_r (kk := fun _ _ _ _ => ?_) | refine z_D (kk := ?_) | refine z_g (kk := ?_) | refine z_h (kk := ?_)))
    refine Ops.appO (enc := Value.int .i64) 0 rfl rfl rfl rfl rfl rfl rfl rfl rfl rfl hO1 h hO1.bel (fun _ => rfl) (by simp; omega) (fun v' w2 hO2 k2 hn2 => ?_)
    rw [List.nil_append] at hO2
    (repeat (first | with_reducible refine W.seq ?_ | with_reducible refine Ops.nil ?_ | with_reducible refine W.region ?_ | refine z_p (kk := ?_) | refine z_a (kk := ?_) | refine z_y (kk := ?_) | refine z_n (kk := ?_) | refine z_u (kk := ?_) | with_reducible refine W.skip ?_ | with_reducible refine W.endb ?_ | with_reducible refine W.block ?_ | refine W.exit rfl ?_ | refine z_l (kk := ?_) | refine z_f (kk := ?_) | refine z_M (kk := ?_) | refine z_m (kk := ?_) | refine z_e (kk := ?_) | refine z_E (kk := ?_) | refine z_d (kk := ?_) | refine z_I (kk := fun _ => ?_) | refine z_J (kk := fun _ => ?_) | refine z_K (kk := fun _ => ?_) | refine z_L (kk := fun _ => ?_) | refine z_T (kk := ?_) | refine z_F (kk := ?_) | refine z_r (kk := fun _ _ _ _ => ?_) | refine z_D (kk := ?_) | refine z_g (kk := ?_) | refine z_h (kk := ?_)))
    exact W.fret rfl hO2
/-- A part of the prices, as a slice. -/
theorem part_sl {w : World} {b q n cap : Nat} {u v : Nat → Int} {f : Nat → Int} (h : PV w b u v) (hn : n ≤ 7) (hq : q = 0 ∨ q = 8) (hf : ∀ j, j < n → f (j + 1) = if q = 0 then u (j + 1) else v (j + 1)) : SlI w (.slice (some ((⟨b, q, none⟩ : Addr).add 1)) n cap) (pl n f) := by
  refine ⟨by rw [pl_len]; omega, _, cap, by rw [pl_len], fun _ => ⟨_, rfl, fun j hj => ?_⟩⟩
  rw [pl_len] at hj
  rw [add_lit, add_lit, pl_get hj, hf j hj]
  refine Blk.cell h ?_
  have := rng_get (m := 16) (f := fun j => .int .i64 (if j < 8 then u j else v (j - 8))) (i := q + 1 + j) (by omega)
  rw [this]
  rcases hq with rfl | rfl
  · rw [if_pos (show 0 + 1 + j < 8 by omega), if_pos rfl, show 0 + 1 + j = j + 1 from by omega]
  · rw [if_neg (show ¬ 8 + 1 + j < 8 by omega), if_neg (by omega), show 8 + 1 + j - 8 = j + 1 from by omega]
theorem Best_c {w : World} {cv : Value} {c : List (List Int)} (hM : RowsM w cv c) : Calls Try.prog 37 #[cv] w (Ret fun r w' => Below w.heap.size w w' ∧ (costsB c = false → r = .tuple #[.slice none 0 0, .slice none 0 0, .slice none 0 0, .int .i64 2]) ∧ (costsB c = true → ∃ av uv vv u v, r = .tuple #[av, uv, vv, .int .i64 0] ∧ OI 3 (Value.int .i64) w w' av (firstS c c.length 0) ∧ OI 3 (Value.int .i64) w w' uv u ∧ OI 3 (Value.int .i64) w w' vv v ∧ Prov c (firstS c c.length 0) u v)) := by
  obtain ⟨Ac, cc, rfl⟩ := hM.sl
  refine calls_W (vs := [_]) Try.func37 rfl (by kernel_rfl) rfl ?_
  (repeat (first | with_reducible refine W.seq ?_ | with_reducible refine Ops.nil ?_ | with_reducible refine W.region ?_ | refine z_p (kk := ?_) | refine z_a (kk := ?_) | refine z_y (kk := ?_) | refine z_n (kk := ?_) | refine z_u (kk := ?_) | with_reducible refine W.skip ?_ | with_reducible refine W.endb ?_ | with_reducible refine W.block ?_ | refine W.exit rfl ?_ | refine z_l (kk := ?_) | refine z_f (kk := ?_) | refine z_M (kk := ?_) | refine z_m (kk := ?_) | refine z_e (kk := ?_) | refine z_E (kk := ?_) | refine z_d (kk := ?_) | refine z_I (kk := fun _ => ?_) | refine z_J (kk := fun _ => ?_) | refine z_K (kk := fun _ => ?_) | refine z_L (kk := fun _ => ?_) | refine z_T (kk := ?_) | refine z_F (kk := ?_) | refine z_r (kk := fun _ _ _ _ => ?_) | refine z_D (kk := ?_) | refine z_g (kk := ?_) | refine z_h (kk := ?_)))
  refine Ops.call rfl rfl rfl rfl rfl (areCosts_c hM) (fun r w1 hR => ?_)
  obtain ⟨rfl, hb1⟩ := hR
  cases hc : costsB c with
  | false =>
    (repeat (first | with_reducible refine W.seq ?_ | with_reducible refine Ops.nil ?_ | with_reducible refine W.region ?_ | refine z_p (kk := ?_) | refine z_a (kk := ?_) | refine z_y (kk := ?_) | refine z_n (kk := ?_) | refine z_u (kk := ?_) | with_reducible refine W.skip ?_ | with_reducible refine W.endb ?_ | with_reducible refine W.block ?_ | refine W.exit rfl ?_ | refine z_l (kk := ?_) | refine z_f (kk := ?_) | refine z_M (kk := ?_) | refine z_m (kk := ?_) | refine z_e (kk := ?_) | refine z_E (kk := ?_) | refine z_d (kk := ?_) | refine z_I (kk := fun _ => ?_) | refine z_J (kk := fun _ => ?_) | refine z_K (kk := fun _ => ?_) | refine z_L (kk := fun _ => ?_) | refine z_T (kk := ?_) | refine z_F (kk := ?_) | refine z_r (kk := fun _ _ _ _ => ?_) | refine z_D (kk := ?_) | refine z_g (kk := ?_) | refine z_h (kk := ?_)))
    refine W.condT rfl (by first | rfl | assumption | (simp only [bnf] <;> omega) | (simp only [*, bnf]; done) | fail) ?_
    (repeat (first | with_reducible refine W.seq ?_ | with_reducible refine Ops.nil ?_ | with_reducible refine W.region ?_ | refine z_p (kk := ?_) | refine z_a (kk := ?_) | refine z_y (kk := ?_) | refine z_n (kk := ?_) | refine z_u (kk := ?_) | with_reducible refine W.skip ?_ | with_reducible refine W.endb ?_ | with_reducible refine W.block ?_ | refine W.exit rfl ?_ | refine z_l (kk := ?_) | refine z_f (kk := ?_) | refine z_M (kk := ?_) | refine z_m (kk := ?_) | refine z_e (kk := ?_) | refine z_E (kk := ?_) | refine z_d (kk := ?_) | refine z_I (kk := fun _ => ?_) | refine z_J (kk := fun _ => ?_) | refine z_K (kk := fun _ => ?_) | refine z_L (kk := fun _ => ?_) | refine z_T (kk := ?_) | refine z_F (kk := ?_) | refine z_r (kk := fun _ _ _ _ => ?_) | refine z_D (kk := ?_) | refine z_g (kk := ?_) | refine z_h (kk := ?_)))
    exact W.fret rfl ⟨hb1, fun _ => rfl, fun h => (by cases h)⟩
  | true =>
    have hC := costs_iff.1 hc
    have hn7 := hC.n7
    have hn1 := hC.n1
    (repeat (first | with_reducible refine W.seq ?_ | with_reducible refine Ops.nil ?_ | with_reducible refine W.region ?_ | refine z_p (kk := ?_) | refine z_a (kk := ?_) | refine z_y (kk := ?_) | refine z_n (kk := ?_) | refine z_u (kk := ?_) | with_reducible refine W.skip ?_ | with_reducible refine W.endb ?_ | with_reducible refine W.block ?_ | refine W.exit rfl ?_ | refine z_l (kk := ?_) | refine z_f (kk := ?_) | refine z_M (kk := ?_) | refine z_m (kk := ?_) | refine z_e (kk := ?_) | refine z_E (kk := ?_) | refine z_d (kk := ?_) | refine z_I (kk := fun _ => ?_) | refine z_J (kk := fun _ => ?_) | refine z_K (kk := fun _ => ?_) | refine z_L (kk := fun _ => ?_) | refine z_T (kk := ?_) | refine z_F (kk := ?_) | refine z_r (kk := fun _ _ _ _ => ?_) | refine z_D (kk := ?_) | refine z_g (kk := ?_) | refine z_h (kk := ?_)))
    refine W.condF rfl (by first | rfl | assumption | (simp only [bnf] <;> omega) | (simp only [*, bnf]; done) | fail) ?_
    (repeat (first | with_reducible refine W.seq ?_ | with_reducible refine Ops.nil ?_ | with_reducible refine W.region ?_ | refine z_p (kk := ?_) | refine z_a (kk := ?_) | refine z_y (kk := ?_) | refine z_n (kk := ?_) | refine z_u (kk := ?_) | with_reducible refine W.skip ?_ | with_reducible refine W.endb ?_ | with_reducible refine W.block ?_ | refine W.exit rfl ?_ | refine z_l (kk := ?_) | refine z_f (kk := ?_) | refine z_M (kk := ?_) | refine z_m (kk := ?_) | refine z_e (kk := ?_) | refine z_E (kk := ?_) | refine z_d (kk := ?_) | refine z_I (kk := fun _ => ?_) | refine z_J (kk := fun _ => ?_) | refine z_K (kk := fun _ => ?_) | refine z_L (kk := fun _ => ?_) | refine z_T (kk := ?_) | refine z_F (kk := ?_) | refine z_r (kk := fun _ _ _ _ => ?_) | refine z_D (kk := ?_) | refine z_g (kk := ?_) | refine z_h (kk := ?_)))
    refine Ops.call rfl rfl rfl rfl rfl (proof_c (hM.below hb1) hC) (fun r w2 hR => ?_)
    obtain ⟨hb2, u, v, o, hPI, rfl⟩ := hR
    have hb02 := Below.via hb1 hb2
    (repeat (first | with_reducible refine W.seq ?_ | with_reducible refine Ops.nil ?_ | with_reducible refine W.region ?_ | refine z_p (kk := ?_) | refine z_a (kk := ?_) | refine z_y (kk := ?_) | refine z_n (kk := ?_) | refine z_u (kk := ?_) | with_reducible refine W.skip ?_ | with_reducible refine W.endb ?_ | with_reducible refine W.block ?_ | refine W.exit rfl ?_ | refine z_l (kk := ?_) | refine z_f (kk := ?_) | refine z_M (kk := ?_) | refine z_m (kk := ?_) | refine z_e (kk := ?_) | refine z_E (kk := ?_) | refine z_d (kk := ?_) | refine z_I (kk := fun _ => ?_) | refine z_J (kk := fun _ => ?_) | refine z_K (kk := fun _ => ?_) | refine z_L (kk := fun _ => ?_) | refine z_T (kk := ?_) | refine z_F (kk := ?_) | refine z_r (kk := fun _ _ _ _ => ?_) | refine z_D (kk := ?_) | refine z_g (kk := ?_) | refine z_h (kk := ?_)))
    refine Ops.alloc rfl rfl rfl rfl (fun w3 b hMk => ?_)
    have hb03 : Below w.heap.size w w3 := Below.put hb02 hMk.kp (fun _ e => e.elim)
    refine Ops.stN (vs := rng 16 fun j => .int .i64 (if j < 8 then u j else v (j - 8))) (cs := rng 16 fun _ => .int .i64 0) rfl rfl rfl rfl rfl rfl (by intro v hv; obtain ⟨j, _, rfl⟩ := List.mem_map.1 hv; rfl) rfl hMk.at_ (fun w4 hu4 => ?_)
    have hPV4 : PV w4 b u v := hu4.blk
    have hbw : w.heap.size ≤ b := by have := hMk.r_eq; have := hb02.size; omega
    have hb04 : Below w.heap.size w w4 := Below.put hb03 hu4.kp (fun i e => by omega)
    (repeat (first | with_reducible refine W.seq ?_ | with_reducible refine Ops.nil ?_ | with_reducible refine W.region ?_ | refine z_p (kk := ?_) | refine z_a (kk := ?_) | refine z_y (kk := ?_) | refine z_n (kk := ?_) | refine z_u (kk := ?_) | with_reducible refine W.skip ?_ | with_reducible refine W.endb ?_ | with_reducible refine W.block ?_ | refine W.exit rfl ?_ | refine z_l (kk := ?_) | refine z_f (kk := ?_) | refine z_M (kk := ?_) | refine z_m (kk := ?_) | refine z_e (kk := ?_) | refine z_E (kk := ?_) | refine z_d (kk := ?_) | refine z_I (kk := fun _ => ?_) | refine z_J (kk := fun _ => ?_) | refine z_K (kk := fun _ => ?_) | refine z_L (kk := fun _ => ?_) | refine z_T (kk := ?_) | refine z_F (kk := ?_) | refine z_r (kk := fun _ _ _ _ => ?_) | refine z_D (kk := ?_) | refine z_g (kk := ?_) | refine z_h (kk := ?_)))
    refine W.ord (hm := rfl) 9999 (fun _ => True) [(0, 1), (2, 1), (3, 1), (4, 1), (5, 1), (7, 1), (8, 1), (9, 1), (10, 1), (1, 0), (6, 0), (11, 0), (12, 1), (13, 1), (14, 1), (15, 1)] (by kernel_rfl) rfl (by kernel_rfl) (fun w5 k5 _ => ⟨trivial, ?_⟩)
    have hb45 : Below w4.heap.size w4 w5 := Kp.below k5 (Nat.le_refl _) (fun _ _ e => e)
    have hb05 := Below.via hb04 hb45
    have hPV5 : PV w5 b u v := hPV4.kp k5 (fun e => e)
    (repeat (first | refine y_p (kk := ?_) | refine y_n (kk := ?_) | refine y_a (kk := ?_) | refine y_l (kk := ?_) | refine y_M (kk := ?_) | refine y_m (kk := ?_) | refine y_e (kk := ?_) | refine y_E (kk := ?_) | refine y_T (kk := ?_) | refine y_F (kk := ?_) | refine y_I (kk := fun _ => ?_) | refine y_J (kk := fun _ => ?_) | refine y_K (kk := fun _ => ?_) | refine y_L (kk := fun _ => ?_) | refine y_r (kk := fun _ _ _ _ => ?_) | refine y_D (kk := ?_) | refine y_P (kk := ?_) | refine y_B (kk := ?_) | refine y_S (kk := ?_) | refine y_O (kk := ?_) | refine y_t (kk := ?_) | refine y_f (kk := ?_)))
    refine VW.Ord.pure rfl rfl rfl rfl (fun _ _ _ h => h) (fun w => EV.slA (h := c.length + 1) rfl rfl rfl rfl rfl rfl (by omega) (by omega) (by omega)) ?_
    (repeat (first | refine y_p (kk := ?_) | refine y_n (kk := ?_) | refine y_a (kk := ?_) | refine y_l (kk := ?_) | refine y_M (kk := ?_) | refine y_m (kk := ?_) | refine y_e (kk := ?_) | refine y_E (kk := ?_) | refine y_T (kk := ?_) | refine y_F (kk := ?_) | refine y_I (kk := fun _ => ?_) | refine y_J (kk := fun _ => ?_) | refine y_K (kk := fun _ => ?_) | refine y_L (kk := fun _ => ?_) | refine y_r (kk := fun _ _ _ _ => ?_) | refine y_D (kk := ?_) | refine y_P (kk := ?_) | refine y_B (kk := ?_) | refine y_S (kk := ?_) | refine y_O (kk := ?_) | refine y_t (kk := ?_) | refine y_f (kk := ?_)))
    refine VW.Ord.pure rfl rfl rfl rfl (fun _ _ _ h => h) (fun w => EV.slA (h := c.length + 1) rfl rfl rfl rfl rfl rfl (by omega) (by omega) (by omega)) ?_
    (repeat (first | refine y_p (kk := ?_) | refine y_n (kk := ?_) | refine y_a (kk := ?_) | refine y_l (kk := ?_) | refine y_M (kk := ?_) | refine y_m (kk := ?_) | refine y_e (kk := ?_) | refine y_E (kk := ?_) | refine y_T (kk := ?_) | refine y_F (kk := ?_) | refine y_I (kk := fun _ => ?_) | refine y_J (kk := fun _ => ?_) | refine y_K (kk := fun _ => ?_) | refine y_L (kk := fun _ => ?_) | refine y_r (kk := fun _ _ _ _ => ?_) | refine y_D (kk := ?_) | refine y_P (kk := ?_) | refine y_B (kk := ?_) | refine y_S (kk := ?_) | refine y_O (kk := ?_) | refine y_t (kk := ?_) | refine y_f (kk := ?_)))
    refine VW.Ord.effF rfl (Ops.call rfl rfl rfl rfl rfl (first_c (hM.below hb05) hC) (fun av w6 hA => Ops.nil (W.endl ⟨trivial, ?_⟩)))
    have hPV6 : PV w6 b u v := hPV5.kp (Kp.of_below (S := fun _ => False) hA.bel) (fun e => e)
    have hu6 : SlI w6 (.slice (some ((⟨b, 0 + 0, none⟩ : Addr).add 1)) (c.length + 1 - 1) 7) (pl c.length u) := part_sl (q := 0) (cap := 7) hPV6 hn7 (.inl rfl) (fun j _ => rfl)
    refine VW.Ord.effF rfl (Ops.call rfl rfl rfl rfl rfl (clone_c hu6 (by rw [pl_len]; omega)) (fun uv w7 hU => Ops.nil (W.endl ⟨trivial, ?_⟩)))
    have hPV7 : PV w7 b u v := hPV6.kp (Kp.of_below (S := fun _ => False) hU.bel) (fun e => e)
    have hv7 : SlI w7 (.slice (some ((⟨b, 0 + 8, none⟩ : Addr).add 1)) (c.length + 1 - 1) 7) (pl c.length v) := part_sl (q := 8) (cap := 7) hPV7 hn7 (.inr rfl) (fun j _ => rfl)
    refine VW.Ord.effF rfl (Ops.call rfl rfl rfl rfl rfl (clone_c hv7 (by rw [pl_len]; omega)) (fun vv w8 hV => Ops.nil (W.endl ⟨trivial, ?_⟩)))
    (repeat (first | refine y_p (kk := ?_) | refine y_n (kk := ?_) | refine y_a (kk := ?_) | refine y_l (kk := ?_) | refine y_M (kk := ?_) | refine y_m (kk := ?_) | refine y_e (kk := ?_) | refine y_E (kk := ?_) | refine y_T (kk := ?_) | refine y_F (kk := ?_) | refine y_I (kk := fun _ => ?_) | refine y_J (kk := fun _ => ?_) | refine y_K (kk := fun _ => ?_) | refine y_L (kk := fun _ => ?_) | refine y_r (kk := fun _ _ _ _ => ?_) | refine y_D (kk := ?_) | refine y_P (kk := ?_) | refine y_B (kk := ?_) | refine y_S (kk := ?_) | refine y_O (kk := ?_) | refine y_t (kk := ?_) | refine y_f (kk := ?_)))
    refine VW.Ord.nil ?_
    have hb06 := Below.via hb05 hA.bel
    have hb07 := Below.via hb06 hU.bel
    have hb08 := Below.via hb07 hV.bel
    (repeat (first | with_reducible refine W.seq ?_ | with_reducible refine Ops.nil ?_ | with_reducible refine W.region ?_ | refine z_p (kk := ?_) | refine z_a (kk := ?_) | refine z_y (kk := ?_) | refine z_n (kk := ?_) | refine z_u (kk := ?_) | with_reducible refine W.skip ?_ | with_reducible refine W.endb ?_ | with_reducible refine W.block ?_ | refine W.exit rfl ?_ | refine z_l (kk := ?_) | refine z_f (kk := ?_) | refine z_M (kk := ?_) | refine z_m (kk := ?_) | refine z_e (kk := ?_) | refine z_E (kk := ?_) | refine z_d (kk := ?_) | refine z_I (kk := fun _ => ?_) | refine z_J (kk := fun _ => ?_) | refine z_K (kk := fun _ => ?_) | refine z_L (kk := fun _ => ?_) | refine z_T (kk := ?_) | refine z_F (kk := ?_) | refine z_r (kk := fun _ _ _ _ => ?_) | refine z_D (kk := ?_) | refine z_g (kk := ?_) | refine z_h (kk := ?_)))
    exact W.fret rfl ⟨hb08, fun h => (by cases h), fun _ => ⟨av, uv, vv, _, _, rfl, ((hA.up hb05).below hU.bel).below hV.bel, (hU.up hb06).below hV.bel, hV.up hb07, prov_PI hC hPI⟩⟩
end Go.Proofs.Ytehjmakiljhjdaa
namespace Go.Proofs.Ytehjmakiljhjdaa.VW
open Go Go.RowKit
theorem RW.nil {w0 w : World} {T : Nat → List Int} (h : Below w0.heap.size w0 w) : RW w0 w (.slice none 0 0) [] 0 T := ⟨OI.nil h, rfl, fun j hj => by omega, fun j hj => by omega⟩
theorem RW.push {w0 w1 w2 w' : World} {ov ov' cv : Value} {cvs : List Value} {n : Nat} {T : Nat → List Int} (h : RW w0 w1 ov cvs n T) (hR : OI 3 (Value.int .i64) w1 w2 cv (T n))
    (hO : OI 23 (fun v : Value => v) w0 w' ov' (cvs ++ [cv])) (k : Kp (fun i => ov.ownBlock = some i) w2 w') (hn : ∀ i, ov'.ownBlock = some i → ov.ownBlock = some i ∨ w2.heap.size ≤ i) : RW w0 w' ov' (cvs ++ [cv]) (n + 1) T := by
  have hl := h.len
  have h12 := hR.bel.size
  have g1 : ∀ j, j < n → (cvs ++ [cv]).getD j undef = cvs.getD j undef := fun j hj => appV_getD (by omega)
  have g2 : (cvs ++ [cv]).getD n undef = cv := appV_last hl.symm
  have hrow : ∀ j, j < n → ∀ b, (cvs.getD j undef).ownBlock = some b → b < w1.heap.size := fun j hj b e => ((h.rows j hj).own.lt b e).2
  have hov : ∀ b, ov.ownBlock = some b → b < w1.heap.size := fun b e => (h.o.own.lt b e).2
  have hcv : ∀ b, cv.ownBlock = some b → w1.heap.size ≤ b := fun b e => hR.ge b e
  have hcv2 : ∀ b, cv.ownBlock = some b → b < w2.heap.size := fun b e => (hR.own.lt b e).2
  refine ⟨hO, by simp [hl], fun j hj => ?_, fun j hj b e => ?_⟩
  · by_cases e : j = n
    · subst e
      rw [g2]
      exact (hR.up h.o.bel).kp k (fun i hi => ⟨h.o.ge i hi, fun e => by have := hov i hi; have := hcv i e; omega⟩)
    · rw [g1 j (by omega)]
      exact ((h.rows j (by omega)).below hR.bel).kp k (fun i hi => ⟨h.o.ge i hi, fun e2 => (h.apart j (by omega) i e2).1 hi⟩)
  · by_cases ej : j = n
    · subst ej
      rw [g2] at e
      refine ⟨fun e2 => ?_, fun q hq hne e2 => ?_⟩
      · rcases hn b e2 with e3 | e3
        · have := hov b e3; have := hcv b e; omega
        · have := hcv2 b e; omega
      · rw [g1 q (by omega)] at e2
        have := hrow q (by omega) b e2; have := hcv b e; omega
    · rw [g1 j (by omega)] at e
      have hb := hrow j (by omega) b e
      refine ⟨fun e2 => ?_, fun q hq hne e2 => ?_⟩
      · rcases hn b e2 with e3 | e3
        · exact (h.apart j (by omega) b e).1 e3
        · omega
      · by_cases eq : q = n
        · subst eq
          rw [g2] at e2
          have := hcv b e2; omega
        · rw [g1 q (by omega)] at e2
          exact (h.apart j (by omega) b e).2 q (by omega) hne e2
theorem RowsM.nil (w : World) : RowsM w (.slice none 0 0) [] := ⟨by simp, none, 0, [], rfl, fun h => by simp at h, fun j hj => by simp at hj⟩
end Go.Proofs.Ytehjmakiljhjdaa.VW
namespace Go.Proofs.Ytehjmakiljhjdaa
open Go Go.RowKit Go.Proofs.Ytehjmakiljhjdaa.VW
attribute [local irreducible] W Ops OrdA VW.Ord OrdX
theorem wrap_u (x : Int) : IntKind.u64.wrap x = x % 18446744073709551616 := by
  simp [IntKind.wrap, IntKind.bits, IntKind.signed]
theorem wrap_i {x : Int} (h0 : 0 ≤ x) (h1 : x < 9223372036854775808) : IntKind.i64.wrap x = x := by
  have : x % 18446744073709551616 = x := by omega
  simp [IntKind.wrap, IntKind.bits, IntKind.signed, this]
  omega
def modI (x n : Int) : Int := x % 18446744073709551616 % n
theorem modI_bd (x : Int) {n : Int} (h : 0 < n) : 0 ≤ modI x n ∧ modI x n < n := ⟨Int.emod_nonneg _ (by omega), Int.emod_lt_of_pos _ h⟩
theorem mod_c (x n : Int) (w : World) (h0 : 0 < n) (h1 : n < 9223372036854775808) : Calls Try.prog 26 #[.int .i64 x, .int .i64 n] w (Ret fun r w' => r = .int .i64 (modI x n) ∧ w' = w) := by
  refine calls_W (vs := [_, _]) Try.func26 rfl (by kernel_rfl) rfl ?_
  (repeat (first | with_reducible refine W.seq ?_ | with_reducible refine Ops.nil ?_ | with_reducible refine W.region ?_ | refine z_p (kk := ?_) | refine z_a (kk := ?_) | refine z_y (kk := ?_) | refine z_n (kk := ?_) | refine z_u (kk := ?_) | with_reducible refine W.skip ?_ | with_reducible refine W.endb ?_ | with_reducible refine W.block ?_ | refine W.exit rfl ?_ | refine z_l (kk := ?_) | refine z_f (kk := ?_) | refine z_M (kk := ?_) | refine z_m (kk := ?_) | refine z_e (kk := ?_) | refine z_E (kk := ?_) | refine z_d (kk := ?_) | refine z_I (kk := fun _ => ?_) | refine z_J (kk := fun _ => ?_) | refine z_K (kk := fun _ => ?_) | refine z_L (kk := fun _ => ?_) | refine z_T (kk := ?_) | refine z_F (kk := ?_) | refine z_r (kk := fun _ _ _ _ => ?_) | refine z_D (kk := ?_) | refine z_g (kk := ?_) | refine z_h (kk := ?_)))
  refine Ops.cv rfl rfl rfl rfl rfl rfl ?_
  (repeat (first | with_reducible refine W.seq ?_ | with_reducible refine Ops.nil ?_ | with_reducible refine W.region ?_ | refine z_p (kk := ?_) | refine z_a (kk := ?_) | refine z_y (kk := ?_) | refine z_n (kk := ?_) | refine z_u (kk := ?_) | with_reducible refine W.skip ?_ | with_reducible refine W.endb ?_ | with_reducible refine W.block ?_ | refine W.exit rfl ?_ | refine z_l (kk := ?_) | refine z_f (kk := ?_) | refine z_M (kk := ?_) | refine z_m (kk := ?_) | refine z_e (kk := ?_) | refine z_E (kk := ?_) | refine z_d (kk := ?_) | refine z_I (kk := fun _ => ?_) | refine z_J (kk := fun _ => ?_) | refine z_K (kk := fun _ => ?_) | refine z_L (kk := fun _ => ?_) | refine z_T (kk := ?_) | refine z_F (kk := ?_) | refine z_r (kk := fun _ _ _ _ => ?_) | refine z_D (kk := ?_) | refine z_g (kk := ?_) | refine z_h (kk := ?_)))
  refine Ops.cv rfl rfl rfl rfl rfl rfl ?_
  have hn : IntKind.u64.wrap n = n := by rw [wrap_u]; omega
  refine Ops.remK rfl rfl rfl rfl rfl (by rw [hn]; omega) ?_
  refine Ops.cv rfl rfl rfl rfl rfl rfl ?_
  (repeat (first | with_reducible refine W.seq ?_ | with_reducible refine Ops.nil ?_ | with_reducible refine W.region ?_ | refine z_p (kk := ?_) | refine z_a (kk := ?_) | refine z_y (kk := ?_) | refine z_n (kk := ?_) | refine z_u (kk := ?_) | with_reducible refine W.skip ?_ | with_reducible refine W.endb ?_ | with_reducible refine W.block ?_ | refine W.exit rfl ?_ | refine z_l (kk := ?_) | refine z_f (kk := ?_) | refine z_M (kk := ?_) | refine z_m (kk := ?_) | refine z_e (kk := ?_) | refine z_E (kk := ?_) | refine z_d (kk := ?_) | refine z_I (kk := fun _ => ?_) | refine z_J (kk := fun _ => ?_) | refine z_K (kk := fun _ => ?_) | refine z_L (kk := fun _ => ?_) | refine z_T (kk := ?_) | refine z_F (kk := ?_) | refine z_r (kk := fun _ _ _ _ => ?_) | refine z_D (kk := ?_) | refine z_g (kk := ?_) | refine z_h (kk := ?_)))
  refine W.fret rfl ⟨?_, rfl⟩
  have hb := modI_bd x h0
  show Value.int .i64 _ = _
  rw [hn, wrap_u, Int.tmod_eq_emod_of_nonneg (Int.emod_nonneg _ (by omega))]
  exact congrArg _ (wrap_i hb.1 (Int.lt_trans hb.2 h1))
def tmV (most x : Int) : Int := if x < -most ∨ x > most then modI x (2 * most + 1) - most else x
theorem tmV_bd {most : Int} (h : 0 ≤ most) (x : Int) : -most ≤ tmV most x ∧ tmV most x ≤ most := by
  unfold tmV
  split
  · have := modI_bd x (n := 2 * most + 1) (by omega); omega
  · omega
theorem tmV_zero {most : Int} (h : 0 ≤ most) : tmV most 0 = 0 := if_neg (by omega)
/-- A row of tame costs, the first j of them. -/
def tmR (l : List (List Int)) (n : Nat) (most : Int) (i j : Nat) : List Int := (List.range n).map fun q => if q < j then tmV most ((l.getD i []).getD q 0) else 0
theorem tmR_len (l : List (List Int)) (n : Nat) (most : Int) (i j : Nat) : (tmR l n most i j).length = n := by simp [tmR]
theorem tmR_set {l : List (List Int)} {n : Nat} {most : Int} {i j : Nat} (h : j < n) : (tmR l n most i j).set j (tmV most ((l.getD i []).getD j 0)) = tmR l n most i (j + 1) := by
  refine List.ext_getElem (by simp [tmR]) fun q h1 h2 => ?_
  simp only [tmR, List.getElem_set, List.getElem_map, List.getElem_range]
  by_cases e : j = q
  · subst e; simp
  · simp only [e, if_false]
    by_cases e2 : q < j
    · simp [e2, show q < j + 1 by omega]
    · simp [e2, show ¬ q < j + 1 by omega]
theorem tmR_zero {l : List (List Int)} {n : Nat} {most : Int} {i : Nat} : tmR l n most i 0 = List.replicate n 0 := by
  refine List.ext_getElem (by simp [tmR]) fun q h1 h2 => by simp [tmR]
theorem tmR_end {l : List (List Int)} {n : Nat} {most : Int} {i j : Nat} (hm : 0 ≤ most) (h : j < n → (l.getD i []).length ≤ j) : tmR l n most i j = tmR l n most i n := by
  refine List.ext_getElem (by simp [tmR]) fun q h1 h2 => ?_
  simp only [tmR_len] at h1
  simp only [tmR, List.getElem_map, List.getElem_range]
  rw [if_pos h1]
  by_cases e : q < j
  · rw [if_pos e]
  · rw [if_neg e, show (l.getD i []).getD q 0 = 0 from ?_, tmV_zero hm]
    rw [List.getD_eq_getElem?_getD, List.getElem?_eq_none (by have := h (by omega); omega)]; rfl
set_option maxHeartbeats 2000000 in
theorem tame_c {w : World} {lv : Value} {l : List (List Int)} (hM : RowsM w lv l) {n : Nat} (hn : n ≤ 7) {most : Int} (hm0 : 0 ≤ most) (hm1 : most ≤ 1000) :
    Calls Try.prog 27 #[lv, .int .i64 (n : Int), .int .i64 most] w (Ret fun r w' => ∃ cvs, RW w w' r cvs n (fun i => tmR l n most i n)) := by
  have hl := hM.1
  obtain ⟨Al, cl, rfl⟩ := hM.sl
  refine calls_W (vs := [_, _, _]) Try.func27 rfl (by kernel_rfl) rfl ?_
  (repeat (first | with_reducible refine W.seq ?_ | with_reducible refine Ops.nil ?_ | with_reducible refine W.region ?_ | refine z_p (kk := ?_) | refine z_a (kk := ?_) | refine z_y (kk := ?_) | refine z_n (kk := ?_) | refine z_u (kk := ?_) | with_reducible refine W.skip ?_ | with_reducible refine W.endb ?_ | with_reducible refine W.block ?_ | refine W.exit rfl ?_ | refine z_l (kk := ?_) | refine z_f (kk := ?_) | refine z_M (kk := ?_) | refine z_m (kk := ?_) | refine z_e (kk := ?_) | refine z_E (kk := ?_) | refine z_d (kk := ?_) | refine z_I (kk := fun _ => ?_) | refine z_J (kk := fun _ => ?_) | refine z_K (kk := fun _ => ?_) | refine z_L (kk := fun _ => ?_) | refine z_T (kk := ?_) | refine z_F (kk := ?_) | refine z_r (kk := fun _ _ _ _ => ?_) | refine z_D (kk := ?_) | refine z_g (kk := ?_) | refine z_h (kk := ?_)))
  refine W.loop (fun m ρ w3 => ∃ (i : Nat) (ov : Value) (cvs : List Value), m = n - i ∧ i ≤ n ∧ ρ = [(0, .slice Al l.length cl), (1, .int .i64 (n : Int)), (2, .int .i64 most), (7, ov), (8, .int .i64 i)] ∧ RW w w3 ov cvs i (fun i => tmR l n most i n))
    ⟨_, _, ⟨0, _, _, rfl, Nat.zero_le _, rfl, RW.nil (Below.refl _ _)⟩, (by repeat (first | exact trivial | refine And.intro rfl ?_))⟩ ?_
  rintro m ρ w3 ⟨i, ov, cvs, rfl, hi, rfl, hO⟩
  have hb3 := hO.o.bel
  (repeat (first | with_reducible refine W.seq ?_ | with_reducible refine Ops.nil ?_ | with_reducible refine W.region ?_ | refine z_p (kk := ?_) | refine z_a (kk := ?_) | refine z_y (kk := ?_) | refine z_n (kk := ?_) | refine z_u (kk := ?_) | with_reducible refine W.skip ?_ | with_reducible refine W.endb ?_ | with_reducible refine W.block ?_ | refine W.exit rfl ?_ | refine z_l (kk := ?_) | refine z_f (kk := ?_) | refine z_M (kk := ?_) | refine z_m (kk := ?_) | refine z_e (kk := ?_) | refine z_E (kk := ?_) | refine z_d (kk := ?_) | refine z_I (kk := fun _ => ?_) | refine z_J (kk := fun _ => ?_) | refine z_K (kk := fun _ => ?_) | refine z_L (kk := fun _ => ?_) | refine z_T (kk := ?_) | refine z_F (kk := ?_) | refine z_r (kk := fun _ _ _ _ => ?_) | refine z_D (kk := ?_) | refine z_g (kk := ?_) | refine z_h (kk := ?_)))
  (first | refine W.condD rfl (fun hc => ?_) (fun hc => ?_) | refine W.condE rfl (fun hc => ?_) (fun hc => ?_) | refine W.condN rfl (fun hc => ?_) (fun hc => ?_) | refine W.cond rfl (fun hc => ?_) (fun hc => ?_))
  · have hin : i < n := by omega
    (repeat (first | with_reducible refine W.seq ?_ | with_reducible refine Ops.nil ?_ | with_reducible refine W.region ?_ | refine z_p (kk := ?_) | refine z_a (kk := ?_) | refine z_y (kk := ?_) | refine z_n (kk := ?_) | refine z_u (kk := ?_) | with_reducible refine W.skip ?_ | with_reducible refine W.endb ?_ | with_reducible refine W.block ?_ | refine W.exit rfl ?_ | refine z_l (kk := ?_) | refine z_f (kk := ?_) | refine z_M (kk := ?_) | refine z_m (kk := ?_) | refine z_e (kk := ?_) | refine z_E (kk := ?_) | refine z_d (kk := ?_) | refine z_I (kk := fun _ => ?_) | refine z_J (kk := fun _ => ?_) | refine z_K (kk := fun _ => ?_) | refine z_L (kk := fun _ => ?_) | refine z_T (kk := ?_) | refine z_F (kk := ?_) | refine z_r (kk := fun _ _ _ _ => ?_) | refine z_D (kk := ?_) | refine z_g (kk := ?_) | refine z_h (kk := ?_)))
    refine Ops.mkO (Value.int .i64) 0 (w0 := w3) rfl rfl rfl rfl rfl rfl rfl rfl rfl (by omega) rfl (Below.refl _ _) (fun w4 r hL4 k4 hr4 => ?_)
    rw [← tmR_zero (l := l) (most := most) (i := i)] at hL4
    (repeat (first | with_reducible refine W.seq ?_ | with_reducible refine Ops.nil ?_ | with_reducible refine W.region ?_ | refine z_p (kk := ?_) | refine z_a (kk := ?_) | refine z_y (kk := ?_) | refine z_n (kk := ?_) | refine z_u (kk := ?_) | with_reducible refine W.skip ?_ | with_reducible refine W.endb ?_ | with_reducible refine W.block ?_ | refine W.exit rfl ?_ | refine z_l (kk := ?_) | refine z_f (kk := ?_) | refine z_M (kk := ?_) | refine z_m (kk := ?_) | refine z_e (kk := ?_) | refine z_E (kk := ?_) | refine z_d (kk := ?_) | refine z_I (kk := fun _ => ?_) | refine z_J (kk := fun _ => ?_) | refine z_K (kk := fun _ => ?_) | refine z_L (kk := fun _ => ?_) | refine z_T (kk := ?_) | refine z_F (kk := ?_) | refine z_r (kk := fun _ _ _ _ => ?_) | refine z_D (kk := ?_) | refine z_g (kk := ?_) | refine z_h (kk := ?_)))
    refine W.loop (fun m ρ w5 => ∃ (j : Nat), m = n - j ∧ j ≤ n ∧ ρ = [(0, .slice Al l.length cl), (1, .int .i64 (n : Int)), (2, .int .i64 most), (7, ov), (8, .int .i64 i), (9, .slice (some ⟨r, 0, none⟩) n n), (10, .int .i64 j)] ∧ OI 3 (Value.int .i64) w3 w5 (.slice (some ⟨r, 0, none⟩) n n) (tmR l n most i j))
      ⟨_, _, ⟨0, rfl, Nat.zero_le _, rfl, hL4⟩, (by repeat (first | exact trivial | refine And.intro rfl ?_))⟩ ?_
    rintro m ρ w5 ⟨j, rfl, hj, rfl, hL5⟩
    have hb5 : Below w.heap.size w w5 := Below.via hb3 hL5.bel
    by_cases hjn : j < n
    · by_cases hil : i < l.length
      · by_cases hjl : (j : Int) < (row l i).length
        · have hbv := tmV_bd hm0 ((row l i).getD j 0)
          (repeat (first | with_reducible refine W.seq ?_ | with_reducible refine Ops.nil ?_ | with_reducible refine W.region ?_ | refine z_p (kk := ?_) | refine z_a (kk := ?_) | refine z_y (kk := ?_) | refine z_n (kk := ?_) | refine z_u (kk := ?_) | with_reducible refine W.skip ?_ | with_reducible refine W.endb ?_ | with_reducible refine W.block ?_ | refine W.exit rfl ?_ | refine z_l (kk := ?_) | refine z_f (kk := ?_) | refine z_M (kk := ?_) | refine z_m (kk := ?_) | refine z_e (kk := ?_) | refine z_E (kk := ?_) | refine z_d (kk := ?_) | refine z_I (kk := fun _ => ?_) | refine z_J (kk := fun _ => ?_) | refine z_K (kk := fun _ => ?_) | refine z_L (kk := fun _ => ?_) | refine z_T (kk := ?_) | refine z_F (kk := ?_) | refine z_r (kk := fun _ _ _ _ => ?_) | refine z_D (kk := ?_) | refine z_g (kk := ?_) | refine z_h (kk := ?_)))
          refine W.condT rfl (by first | rfl | assumption | (simp only [bnf] <;> omega) | (simp only [*, bnf]; done) | fail) ?_
          (repeat (first | with_reducible refine W.seq ?_ | with_reducible refine Ops.nil ?_ | with_reducible refine W.region ?_ | refine z_p (kk := ?_) | refine z_a (kk := ?_) | refine z_y (kk := ?_) | refine z_n (kk := ?_) | refine z_u (kk := ?_) | with_reducible refine W.skip ?_ | with_reducible refine W.endb ?_ | with_reducible refine W.block ?_ | refine W.exit rfl ?_ | refine z_l (kk := ?_) | refine z_f (kk := ?_) | refine z_M (kk := ?_) | refine z_m (kk := ?_) | refine z_e (kk := ?_) | refine z_E (kk := ?_) | refine z_d (kk := ?_) | refine z_I (kk := fun _ => ?_) | refine z_J (kk := fun _ => ?_) | refine z_K (kk := fun _ => ?_) | refine z_L (kk := fun _ => ?_) | refine z_T (kk := ?_) | refine z_F (kk := ?_) | refine z_r (kk := fun _ _ _ _ => ?_) | refine z_D (kk := ?_) | refine z_g (kk := ?_) | refine z_h (kk := ?_)))
          have hset := tmR_set (l := l) (most := most) (i := i) hjn
          by_cases h1 : (row l i).getD j 0 < -most
          · have hbm := modI_bd ((row l i).getD j 0) (n := 2 * most + 1) (by omega)
            (repeat (first | with_reducible refine W.seq ?_ | with_reducible refine Ops.nil ?_ | with_reducible refine W.region ?_ | refine z_p (kk := ?_) | refine z_a (kk := ?_) | refine z_y (kk := ?_) | refine z_n (kk := ?_) | refine z_u (kk := ?_) | with_reducible refine W.skip ?_ | with_reducible refine W.endb ?_ | with_reducible refine W.block ?_ | refine W.exit rfl ?_ | refine z_l (kk := ?_) | refine z_f (kk := ?_) | refine z_M (kk := ?_) | refine z_m (kk := ?_) | refine z_e (kk := ?_) | refine z_E (kk := ?_) | refine z_d (kk := ?_) | refine z_I (kk := fun _ => ?_) | refine z_J (kk := fun _ => ?_) | refine z_K (kk := fun _ => ?_) | refine z_L (kk := fun _ => ?_) | refine z_T (kk := ?_) | refine z_F (kk := ?_) | refine z_r (kk := fun _ _ _ _ => ?_) | refine z_D (kk := ?_) | refine z_g (kk := ?_) | refine z_h (kk := ?_)))
            refine W.condT rfl (by first | rfl | assumption | (simp only [bnf] <;> omega) | (simp only [*, bnf]; done) | fail) ?_
            (repeat (first | with_reducible refine W.seq ?_ | with_reducible refine Ops.nil ?_ | with_reducible refine W.region ?_ | refine z_p (kk := ?_) | refine z_a (kk := ?_) | refine z_y (kk := ?_) | refine z_n (kk := ?_) | refine z_u (kk := ?_) | with_reducible refine W.skip ?_ | with_reducible refine W.endb ?_ | with_reducible refine W.block ?_ | refine W.exit rfl ?_ | refine z_l (kk := ?_) | refine z_f (kk := ?_) | refine z_M (kk := ?_) | refine z_m (kk := ?_) | refine z_e (kk := ?_) | refine z_E (kk := ?_) | refine z_d (kk := ?_) | refine z_I (kk := fun _ => ?_) | refine z_J (kk := fun _ => ?_) | refine z_K (kk := fun _ => ?_) | refine z_L (kk := fun _ => ?_) | refine z_T (kk := ?_) | refine z_F (kk := ?_) | refine z_r (kk := fun _ _ _ _ => ?_) | refine z_D (kk := ?_) | refine z_g (kk := ?_) | refine z_h (kk := ?_)))
            refine Ops.callS rfl rfl rfl rfl rfl (mod_c _ _ _ (by omega) (by omega)) ?_
            (repeat (first | with_reducible refine W.seq ?_ | with_reducible refine Ops.nil ?_ | with_reducible refine W.region ?_ | refine z_p (kk := ?_) | refine z_a (kk := ?_) | refine z_y (kk := ?_) | refine z_n (kk := ?_) | refine z_u (kk := ?_) | with_reducible refine W.skip ?_ | with_reducible refine W.endb ?_ | with_reducible refine W.block ?_ | refine W.exit rfl ?_ | refine z_l (kk := ?_) | refine z_f (kk := ?_) | refine z_M (kk := ?_) | refine z_m (kk := ?_) | refine z_e (kk := ?_) | refine z_E (kk := ?_) | refine z_d (kk := ?_) | refine z_I (kk := fun _ => ?_) | refine z_J (kk := fun _ => ?_) | refine z_K (kk := fun _ => ?_) | refine z_L (kk := fun _ => ?_) | refine z_T (kk := ?_) | refine z_F (kk := ?_) | refine z_r (kk := fun _ _ _ _ => ?_) | refine z_D (kk := ?_) | refine z_g (kk := ?_) | refine z_h (kk := ?_)))
            refine Ops.wrO (enc := Value.int .i64) (u := tmV most ((row l i).getD j 0)) rfl rfl rfl rfl rfl rfl rfl rfl rfl rfl rfl (by rw [tmV, if_pos (.inl h1)]; rfl) (by simp) rfl hL5 (by rw [tmR_len]; omega) (fun w6 p hL6 k6 hs6 => ?_)
            rw [show row l i = l.getD i [] by simp [row]] at hL6
            rw [hset] at hL6
            (repeat (first | with_reducible refine W.seq ?_ | with_reducible refine Ops.nil ?_ | with_reducible refine W.region ?_ | refine z_p (kk := ?_) | refine z_a (kk := ?_) | refine z_y (kk := ?_) | refine z_n (kk := ?_) | refine z_u (kk := ?_) | with_reducible refine W.skip ?_ | with_reducible refine W.endb ?_ | with_reducible refine W.block ?_ | refine W.exit rfl ?_ | refine z_l (kk := ?_) | refine z_f (kk := ?_) | refine z_M (kk := ?_) | refine z_m (kk := ?_) | refine z_e (kk := ?_) | refine z_E (kk := ?_) | refine z_d (kk := ?_) | refine z_I (kk := fun _ => ?_) | refine z_J (kk := fun _ => ?_) | refine z_K (kk := fun _ => ?_) | refine z_L (kk := fun _ => ?_) | refine z_T (kk := ?_) | refine z_F (kk := ?_) | refine z_r (kk := fun _ _ _ _ => ?_) | refine z_D (kk := ?_) | refine z_g (kk := ?_) | refine z_h (kk := ?_)))
            exact W.endl ⟨_, _, ⟨⟨j + 1, rfl, by omega, rfl, hL6⟩, by omega⟩, (by repeat (first | exact trivial | refine And.intro rfl ?_))⟩
          · by_cases h2 : (row l i).getD j 0 > most
            · have hbm := modI_bd ((row l i).getD j 0) (n := 2 * most + 1) (by omega)
              (repeat (first | with_reducible refine W.seq ?_ | with_reducible refine Ops.nil ?_ | with_reducible refine W.region ?_ | refine z_p (kk := ?_) | refine z_a (kk := ?_) | refine z_y (kk := ?_) | refine z_n (kk := ?_) | refine z_u (kk := ?_) | with_reducible refine W.skip ?_ | with_reducible refine W.endb ?_ | with_reducible refine W.block ?_ | refine W.exit rfl ?_ | refine z_l (kk := ?_) | refine z_f (kk := ?_) | refine z_M (kk := ?_) | refine z_m (kk := ?_) | refine z_e (kk := ?_) | refine z_E (kk := ?_) | refine z_d (kk := ?_) | refine z_I (kk := fun _ => ?_) | refine z_J (kk := fun _ => ?_) | refine z_K (kk := fun _ => ?_) | refine z_L (kk := fun _ => ?_) | refine z_T (kk := ?_) | refine z_F (kk := ?_) | refine z_r (kk := fun _ _ _ _ => ?_) | refine z_D (kk := ?_) | refine z_g (kk := ?_) | refine z_h (kk := ?_)))
              refine W.condT rfl (by first | rfl | assumption | (simp only [bnf] <;> omega) | (simp only [*, bnf]; done) | fail) ?_
              (repeat (first | with_reducible refine W.seq ?_ | with_reducible refine Ops.nil ?_ | with_reducible refine W.region ?_ | refine z_p (kk := ?_) | refine z_a (kk := ?_) | refine z_y (kk := ?_) | refine z_n (kk := ?_) | refine z_u (kk := ?_) | with_reducible refine W.skip ?_ | with_reducible refine W.endb ?_ | with_reducible refine W.block ?_ | refine W.exit rfl ?_ | refine z_l (kk := ?_) | refine z_f (kk := ?_) | refine z_M (kk := ?_) | refine z_m (kk := ?_) | refine z_e (kk := ?_) | refine z_E (kk := ?_) | refine z_d (kk := ?_) | refine z_I (kk := fun _ => ?_) | refine z_J (kk := fun _ => ?_) | refine z_K (kk := fun _ => ?_) | refine z_L (kk := fun _ => ?_) | refine z_T (kk := ?_) | refine z_F (kk := ?_) | refine z_r (kk := fun _ _ _ _ => ?_) | refine z_D (kk := ?_) | refine z_g (kk := ?_) | refine z_h (kk := ?_)))
              refine Ops.callS rfl rfl rfl rfl rfl (mod_c _ _ _ (by omega) (by omega)) ?_
              (repeat (first | with_reducible refine W.seq ?_ | with_reducible refine Ops.nil ?_ | with_reducible refine W.region ?_ | refine z_p (kk := ?_) | refine z_a (kk := ?_) | refine z_y (kk := ?_) | refine z_n (kk := ?_) | refine z_u (kk := ?_) | with_reducible refine W.skip ?_ | with_reducible refine W.endb ?_ | with_reducible refine W.block ?_ | refine W.exit rfl ?_ | refine z_l (kk := ?_) | refine z_f (kk := ?_) | refine z_M (kk := ?_) | refine z_m (kk := ?_) | refine z_e (kk := ?_) | refine z_E (kk := ?_) | refine z_d (kk := ?_) | refine z_I (kk := fun _ => ?_) | refine z_J (kk := fun _ => ?_) | refine z_K (kk := fun _ => ?_) | refine z_L (kk := fun _ => ?_) | refine z_T (kk := ?_) | refine z_F (kk := ?_) | refine z_r (kk := fun _ _ _ _ => ?_) | refine z_D (kk := ?_) | refine z_g (kk := ?_) | refine z_h (kk := ?_)))
              refine Ops.wrO (enc := Value.int .i64) (u := tmV most ((row l i).getD j 0)) rfl rfl rfl rfl rfl rfl rfl rfl rfl rfl rfl (by rw [tmV, if_pos (.inr h2)]; rfl) (by simp) rfl hL5 (by rw [tmR_len]; omega) (fun w6 p hL6 k6 hs6 => ?_)
              rw [show row l i = l.getD i [] by simp [row]] at hL6
              rw [hset] at hL6
              (repeat (first | with_reducible refine W.seq ?_ | with_reducible refine Ops.nil ?_ | with_reducible refine W.region ?_ | refine z_p (kk := ?_) | refine z_a (kk := ?_) | refine z_y (kk := ?_) | refine z_n (kk := ?_) | refine z_u (kk := ?_) | with_reducible refine W.skip ?_ | with_reducible refine W.endb ?_ | with_reducible refine W.block ?_ | refine W.exit rfl ?_ | refine z_l (kk := ?_) | refine z_f (kk := ?_) | refine z_M (kk := ?_) | refine z_m (kk := ?_) | refine z_e (kk := ?_) | refine z_E (kk := ?_) | refine z_d (kk := ?_) | refine z_I (kk := fun _ => ?_) | refine z_J (kk := fun _ => ?_) | refine z_K (kk := fun _ => ?_) | refine z_L (kk := fun _ => ?_) | refine z_T (kk := ?_) | refine z_F (kk := ?_) | refine z_r (kk := fun _ _ _ _ => ?_) | refine z_D (kk := ?_) | refine z_g (kk := ?_) | refine z_h (kk := ?_)))
              exact W.endl ⟨_, _, ⟨⟨j + 1, rfl, by omega, rfl, hL6⟩, by omega⟩, (by repeat (first | exact trivial | refine And.intro rfl ?_))⟩
            · (repeat (first | with_reducible refine W.seq ?_ | with_reducible refine Ops.nil ?_ | with_reducible refine W.region ?_ | refine z_p (kk := ?_) | refine z_a (kk := ?_) | refine z_y (kk := ?_) | refine z_n (kk := ?_) | refine z_u (kk := ?_) | with_reducible refine W.skip ?_ | with_reducible refine W.endb ?_ | with_reducible refine W.block ?_ | refine W.exit rfl ?_ | refine z_l (kk := ?_) | refine z_f (kk := ?_) | refine z_M (kk := ?_) | refine z_m (kk := ?_) | refine z_e (kk := ?_) | refine z_E (kk := ?_) | refine z_d (kk := ?_) | refine z_I (kk := fun _ => ?_) | refine z_J (kk := fun _ => ?_) | refine z_K (kk := fun _ => ?_) | refine z_L (kk := fun _ => ?_) | refine z_T (kk := ?_) | refine z_F (kk := ?_) | refine z_r (kk := fun _ _ _ _ => ?_) | refine z_D (kk := ?_) | refine z_g (kk := ?_) | refine z_h (kk := ?_)))
              refine W.condF rfl (by first | rfl | assumption | (simp only [bnf] <;> omega) | (simp only [*, bnf]; done) | fail) ?_
              (repeat (first | with_reducible refine W.seq ?_ | with_reducible refine Ops.nil ?_ | with_reducible refine W.region ?_ | refine z_p (kk := ?_) | refine z_a (kk := ?_) | refine z_y (kk := ?_) | refine z_n (kk := ?_) | refine z_u (kk := ?_) | with_reducible refine W.skip ?_ | with_reducible refine W.endb ?_ | with_reducible refine W.block ?_ | refine W.exit rfl ?_ | refine z_l (kk := ?_) | refine z_f (kk := ?_) | refine z_M (kk := ?_) | refine z_m (kk := ?_) | refine z_e (kk := ?_) | refine z_E (kk := ?_) | refine z_d (kk := ?_) | refine z_I (kk := fun _ => ?_) | refine z_J (kk := fun _ => ?_) | refine z_K (kk := fun _ => ?_) | refine z_L (kk := fun _ => ?_) | refine z_T (kk := ?_) | refine z_F (kk := ?_) | refine z_r (kk := fun _ _ _ _ => ?_) | refine z_D (kk := ?_) | refine z_g (kk := ?_) | refine z_h (kk := ?_)))
              refine Ops.wrO (enc := Value.int .i64) (u := tmV most ((row l i).getD j 0)) rfl rfl rfl rfl rfl rfl rfl rfl rfl rfl rfl (by rw [tmV, if_neg (by omega)]; rfl) (by simp) rfl hL5 (by rw [tmR_len]; omega) (fun w6 p hL6 k6 hs6 => ?_)
              rw [show row l i = l.getD i [] by simp [row]] at hL6
              rw [hset] at hL6
              (repeat (first | with_reducible refine W.seq ?_ | with_reducible refine Ops.nil ?_ | with_reducible refine W.region ?_ | refine z_p (kk := ?_) | refine z_a (kk := ?_) | refine z_y (kk := ?_) | refine z_n (kk := ?_) | refine z_u (kk := ?_) | with_reducible refine W.skip ?_ | with_reducible refine W.endb ?_ | with_reducible refine W.block ?_ | refine W.exit rfl ?_ | refine z_l (kk := ?_) | refine z_f (kk := ?_) | refine z_M (kk := ?_) | refine z_m (kk := ?_) | refine z_e (kk := ?_) | refine z_E (kk := ?_) | refine z_d (kk := ?_) | refine z_I (kk := fun _ => ?_) | refine z_J (kk := fun _ => ?_) | refine z_K (kk := fun _ => ?_) | refine z_L (kk := fun _ => ?_) | refine z_T (kk := ?_) | refine z_F (kk := ?_) | refine z_r (kk := fun _ _ _ _ => ?_) | refine z_D (kk := ?_) | refine z_g (kk := ?_) | refine z_h (kk := ?_)))
              exact W.endl ⟨_, _, ⟨⟨j + 1, rfl, by omega, rfl, hL6⟩, by omega⟩, (by repeat (first | exact trivial | refine And.intro rfl ?_))⟩
        · have hrow : (l.getD i []).length ≤ j := by
            have : row l i = l.getD i [] := by simp [row]
            rw [this] at hjl
            omega
          (repeat (first | with_reducible refine W.seq ?_ | with_reducible refine Ops.nil ?_ | with_reducible refine W.region ?_ | refine z_p (kk := ?_) | refine z_a (kk := ?_) | refine z_y (kk := ?_) | refine z_n (kk := ?_) | refine z_u (kk := ?_) | with_reducible refine W.skip ?_ | with_reducible refine W.endb ?_ | with_reducible refine W.block ?_ | refine W.exit rfl ?_ | refine z_l (kk := ?_) | refine z_f (kk := ?_) | refine z_M (kk := ?_) | refine z_m (kk := ?_) | refine z_e (kk := ?_) | refine z_E (kk := ?_) | refine z_d (kk := ?_) | refine z_I (kk := fun _ => ?_) | refine z_J (kk := fun _ => ?_) | refine z_K (kk := fun _ => ?_) | refine z_L (kk := fun _ => ?_) | refine z_T (kk := ?_) | refine z_F (kk := ?_) | refine z_r (kk := fun _ _ _ _ => ?_) | refine z_D (kk := ?_) | refine z_g (kk := ?_) | refine z_h (kk := ?_)))
          refine W.condF rfl (by first | rfl | assumption | (simp only [bnf] <;> omega) | (simp only [*, bnf]; done) | fail) ?_
          (repeat (first | with_reducible refine W.seq ?_ | with_reducible refine Ops.nil ?_ | with_reducible refine W.region ?_ | refine z_p (kk := ?_) | refine z_a (kk := ?_) | refine z_y (kk := ?_) | refine z_n (kk := ?_) | refine z_u (kk := ?_) | with_reducible refine W.skip ?_ | with_reducible refine W.endb ?_ | with_reducible refine W.block ?_ | refine W.exit rfl ?_ | refine z_l (kk := ?_) | refine z_f (kk := ?_) | refine z_M (kk := ?_) | refine z_m (kk := ?_) | refine z_e (kk := ?_) | refine z_E (kk := ?_) | refine z_d (kk := ?_) | refine z_I (kk := fun _ => ?_) | refine z_J (kk := fun _ => ?_) | refine z_K (kk := fun _ => ?_) | refine z_L (kk := fun _ => ?_) | refine z_T (kk := ?_) | refine z_F (kk := ?_) | refine z_r (kk := fun _ _ _ _ => ?_) | refine z_D (kk := ?_) | refine z_g (kk := ?_) | refine z_h (kk := ?_)))
          rw [tmR_end hm0 (fun _ => hrow)] at hL5
          have hO5 := hO.below hL5.bel
          refine Ops.pushO (enc := fun v : Value => v) (u := .slice (some ⟨r, 0, none⟩) n n) rfl rfl rfl rfl rfl rfl rfl rfl rfl rfl rfl rfl (fun _ => rfl) rfl hO5.o (by rw [hO5.len]; omega) (fun lv' p w6 hO6 k6 hn6 => ?_)
          have hO7 := hO.push hL5 hO6 k6 hn6
          (repeat (first | with_reducible refine W.seq ?_ | with_reducible refine Ops.nil ?_ | with_reducible refine W.region ?_ | refine z_p (kk := ?_) | refine z_a (kk := ?_) | refine z_y (kk := ?_) | refine z_n (kk := ?_) | refine z_u (kk := ?_) | with_reducible refine W.skip ?_ | with_reducible refine W.endb ?_ | with_reducible refine W.block ?_ | refine W.exit rfl ?_ | refine z_l (kk := ?_) | refine z_f (kk := ?_) | refine z_M (kk := ?_) | refine z_m (kk := ?_) | refine z_e (kk := ?_) | refine z_E (kk := ?_) | refine z_d (kk := ?_) | refine z_I (kk := fun _ => ?_) | refine z_J (kk := fun _ => ?_) | refine z_K (kk := fun _ => ?_) | refine z_L (kk := fun _ => ?_) | refine z_T (kk := ?_) | refine z_F (kk := ?_) | refine z_r (kk := fun _ _ _ _ => ?_) | refine z_D (kk := ?_) | refine z_g (kk := ?_) | refine z_h (kk := ?_)))
          exact W.endl ⟨_, _, ⟨⟨i + 1, _, _, rfl, by omega, rfl, hO7⟩, by omega⟩, (by repeat (first | exact trivial | refine And.intro rfl ?_))⟩
      · have hrow : (l.getD i []).length ≤ j := by
          rw [List.getD_eq_getElem?_getD, List.getElem?_eq_none (by omega)]; simp
        (repeat (first | with_reducible refine W.seq ?_ | with_reducible refine Ops.nil ?_ | with_reducible refine W.region ?_ | refine z_p (kk := ?_) | refine z_a (kk := ?_) | refine z_y (kk := ?_) | refine z_n (kk := ?_) | refine z_u (kk := ?_) | with_reducible refine W.skip ?_ | with_reducible refine W.endb ?_ | with_reducible refine W.block ?_ | refine W.exit rfl ?_ | refine z_l (kk := ?_) | refine z_f (kk := ?_) | refine z_M (kk := ?_) | refine z_m (kk := ?_) | refine z_e (kk := ?_) | refine z_E (kk := ?_) | refine z_d (kk := ?_) | refine z_I (kk := fun _ => ?_) | refine z_J (kk := fun _ => ?_) | refine z_K (kk := fun _ => ?_) | refine z_L (kk := fun _ => ?_) | refine z_T (kk := ?_) | refine z_F (kk := ?_) | refine z_r (kk := fun _ _ _ _ => ?_) | refine z_D (kk := ?_) | refine z_g (kk := ?_) | refine z_h (kk := ?_)))
        refine W.condF rfl (by first | rfl | assumption | (simp only [bnf] <;> omega) | (simp only [*, bnf]; done) | fail) ?_
        (repeat (first | with_reducible refine W.seq ?_ | with_reducible refine Ops.nil ?_ | with_reducible refine W.region ?_ | refine z_p (kk := ?_) | refine z_a (kk := ?_) | refine z_y (kk := ?_) | refine z_n (kk := ?_) | refine z_u (kk := ?_) | with_reducible refine W.skip ?_ | with_reducible refine W.endb ?_ | with_reducible refine W.block ?_ | refine W.exit rfl ?_ | refine z_l (kk := ?_) | refine z_f (kk := ?_) | refine z_M (kk := ?_) | refine z_m (kk := ?_) | refine z_e (kk := ?_) | refine z_E (kk := ?_) | refine z_d (kk := ?_) | refine z_I (kk := fun _ => ?_) | refine z_J (kk := fun _ => ?_) | refine z_K (kk := fun _ => ?_) | refine z_L (kk := fun _ => ?_) | refine z_T (kk := ?_) | refine z_F (kk := ?_) | refine z_r (kk := fun _ _ _ _ => ?_) | refine z_D (kk := ?_) | refine z_g (kk := ?_) | refine z_h (kk := ?_)))
        rw [tmR_end hm0 (fun _ => hrow)] at hL5
        have hO5 := hO.below hL5.bel
        refine Ops.pushO (enc := fun v : Value => v) (u := .slice (some ⟨r, 0, none⟩) n n) rfl rfl rfl rfl rfl rfl rfl rfl rfl rfl rfl rfl (fun _ => rfl) rfl hO5.o (by rw [hO5.len]; omega) (fun lv' p w6 hO6 k6 hn6 => ?_)
        have hO7 := hO.push hL5 hO6 k6 hn6
        (repeat (first | with_reducible refine W.seq ?_ | with_reducible refine Ops.nil ?_ | with_reducible refine W.region ?_ | refine z_p (kk := ?_) | refine z_a (kk := ?_) | refine z_y (kk := ?_) | refine z_n (kk := ?_) | refine z_u (kk := ?_) | with_reducible refine W.skip ?_ | with_reducible refine W.endb ?_ | with_reducible refine W.block ?_ | refine W.exit rfl ?_ | refine z_l (kk := ?_) | refine z_f (kk := ?_) | refine z_M (kk := ?_) | refine z_m (kk := ?_) | refine z_e (kk := ?_) | refine z_E (kk := ?_) | refine z_d (kk := ?_) | refine z_I (kk := fun _ => ?_) | refine z_J (kk := fun _ => ?_) | refine z_K (kk := fun _ => ?_) | refine z_L (kk := fun _ => ?_) | refine z_T (kk := ?_) | refine z_F (kk := ?_) | refine z_r (kk := fun _ _ _ _ => ?_) | refine z_D (kk := ?_) | refine z_g (kk := ?_) | refine z_h (kk := ?_)))
        exact W.endl ⟨_, _, ⟨⟨i + 1, _, _, rfl, by omega, rfl, hO7⟩, by omega⟩, (by repeat (first | exact trivial | refine And.intro rfl ?_))⟩
    · (repeat (first | with_reducible refine W.seq ?_ | with_reducible refine Ops.nil ?_ | with_reducible refine W.region ?_ | refine z_p (kk := ?_) | refine z_a (kk := ?_) | refine z_y (kk := ?_) | refine z_n (kk := ?_) | refine z_u (kk := ?_) | with_reducible refine W.skip ?_ | with_reducible refine W.endb ?_ | with_reducible refine W.block ?_ | refine W.exit rfl ?_ | refine z_l (kk := ?_) | refine z_f (kk := ?_) | refine z_M (kk := ?_) | refine z_m (kk := ?_) | refine z_e (kk := ?_) | refine z_E (kk := ?_) | refine z_d (kk := ?_) | refine z_I (kk := fun _ => ?_) | refine z_J (kk := fun _ => ?_) | refine z_K (kk := fun _ => ?_) | refine z_L (kk := fun _ => ?_) | refine z_T (kk := ?_) | refine z_F (kk := ?_) | refine z_r (kk := fun _ _ _ _ => ?_) | refine z_D (kk := ?_) | refine z_g (kk := ?_) | refine z_h (kk := ?_)))
      refine W.condF rfl (by first | rfl | assumption | (simp only [bnf] <;> omega) | (simp only [*, bnf]; done) | fail) ?_
      (repeat (first | with_reducible refine W.seq ?_ | with_reducible refine Ops.nil ?_ | with_reducible refine W.region ?_ | refine z_p (kk := ?_) | refine z_a (kk := ?_) | refine z_y (kk := ?_) | refine z_n (kk := ?_) | refine z_u (kk := ?_) | with_reducible refine W.skip ?_ | with_reducible refine W.endb ?_ | with_reducible refine W.block ?_ | refine W.exit rfl ?_ | refine z_l (kk := ?_) | refine z_f (kk := ?_) | refine z_M (kk := ?_) | refine z_m (kk := ?_) | refine z_e (kk := ?_) | refine z_E (kk := ?_) | refine z_d (kk := ?_) | refine z_I (kk := fun _ => ?_) | refine z_J (kk := fun _ => ?_) | refine z_K (kk := fun _ => ?_) | refine z_L (kk := fun _ => ?_) | refine z_T (kk := ?_) | refine z_F (kk := ?_) | refine z_r (kk := fun _ _ _ _ => ?_) | refine z_D (kk := ?_) | refine z_g (kk := ?_) | refine z_h (kk := ?_)))
      rw [tmR_end hm0 (fun h => absurd h hjn)] at hL5
      have hO5 := hO.below hL5.bel
      refine Ops.pushO (enc := fun v : Value => v) (u := .slice (some ⟨r, 0, none⟩) n n) rfl rfl rfl rfl rfl rfl rfl rfl rfl rfl rfl rfl (fun _ => rfl) rfl hO5.o (by rw [hO5.len]; omega) (fun lv' p w6 hO6 k6 hn6 => ?_)
      have hO7 := hO.push hL5 hO6 k6 hn6
      (repeat (first | with_reducible refine W.seq ?_ | with_reducible refine Ops.nil ?_ | with_reducible refine W.region ?_ | refine z_p (kk := ?_) | refine z_a (kk := ?_) | refine z_y (kk := ?_) | refine z_n (kk := ?_) | refine z_u (kk := ?_) | with_reducible refine W.skip ?_ | with_reducible refine W.endb ?_ | with_reducible refine W.block ?_ | refine W.exit rfl ?_ | refine z_l (kk := ?_) | refine z_f (kk := ?_) | refine z_M (kk := ?_) | refine z_m (kk := ?_) | refine z_e (kk := ?_) | refine z_E (kk := ?_) | refine z_d (kk := ?_) | refine z_I (kk := fun _ => ?_) | refine z_J (kk := fun _ => ?_) | refine z_K (kk := fun _ => ?_) | refine z_L (kk := fun _ => ?_) | refine z_T (kk := ?_) | refine z_F (kk := ?_) | refine z_r (kk := fun _ _ _ _ => ?_) | refine z_D (kk := ?_) | refine z_g (kk := ?_) | refine z_h (kk := ?_)))
      exact W.endl ⟨_, _, ⟨⟨i + 1, _, _, rfl, by omega, rfl, hO7⟩, by omega⟩, (by repeat (first | exact trivial | refine And.intro rfl ?_))⟩
  · have : i = n := by omega
    subst this
    (repeat (first | with_reducible refine W.seq ?_ | with_reducible refine Ops.nil ?_ | with_reducible refine W.region ?_ | refine z_p (kk := ?_) | refine z_a (kk := ?_) | refine z_y (kk := ?_) | refine z_n (kk := ?_) | refine z_u (kk := ?_) | with_reducible refine W.skip ?_ | with_reducible refine W.endb ?_ | with_reducible refine W.block ?_ | refine W.exit rfl ?_ | refine z_l (kk := ?_) | refine z_f (kk := ?_) | refine z_M (kk := ?_) | refine z_m (kk := ?_) | refine z_e (kk := ?_) | refine z_E (kk := ?_) | refine z_d (kk := ?_) | refine z_I (kk := fun _ => ?_) | refine z_J (kk := fun _ => ?_) | refine z_K (kk := fun _ => ?_) | refine z_L (kk := fun _ => ?_) | refine z_T (kk := ?_) | refine z_F (kk := ?_) | refine z_r (kk := fun _ _ _ _ => ?_) | refine z_D (kk := ?_) | refine z_g (kk := ?_) | refine z_h (kk := ?_)))
    exact W.fret rfl ⟨cvs, hO⟩
end Go.Proofs.Ytehjmakiljhjdaa
/- Plain: all assignments in order. -/
namespace Go.Proofs.Ytehjmakiljhjdaa
open Go Go.RowKit Go.Proofs.Ytehjmakiljhjdaa.VW
/-- What comes out of a list by one more hole, of the first m. -/
def exR (a : List Int) : Nat → List (List Int)
  | 0 => []
  | m + 1 => exR a m ++ if (m : Int) ∈ a then [] else [a ++ [(m : Int)]]
/-- The first k of a list, all of them extended. -/
def exL (n : Nat) (l : List (List Int)) : Nat → List (List Int)
  | 0 => []
  | k + 1 => exL n l k ++ exR (l.getD k []) n
def levL (n : Nat) : Nat → List (List Int)
  | 0 => [[]]
  | i + 1 => exL n (levL n i) (levL n i).length
def allL (n : Nat) : List (List Int) := levL n n
theorem exR_len (a : List Int) : ∀ m, (exR a m).length ≤ m
  | 0 => Nat.le_refl _
  | m + 1 => by
    have := exR_len a m
    simp only [exR, List.length_append]
    split <;> simp <;> omega
theorem exL_len (n : Nat) (l : List (List Int)) : ∀ k, (exL n l k).length ≤ k * n
  | 0 => by simp [exL]
  | k + 1 => by
    have := exL_len n l k
    have := exR_len (l.getD k []) n
    simp only [exL, List.length_append, Nat.add_mul, Nat.one_mul]
    omega
theorem levL_len {n : Nat} (h : n ≤ 7) : ∀ i, (levL n i).length ≤ 7 ^ i
  | 0 => by simp [levL]
  | i + 1 => by
    have h1 := levL_len h i
    have h2 := exL_len n (levL n i) (levL n i).length
    have h3 : (levL n i).length * n ≤ 7 ^ i * 7 := Nat.mul_le_mul h1 h
    rw [Nat.pow_succ]
    exact Nat.le_trans h2 h3
theorem levL_lt {n i : Nat} (h : n ≤ 7) (hi : i ≤ 7) : (levL n i).length ≤ 823543 := Nat.le_trans (levL_len h i) (Nat.le_trans (Nat.pow_le_pow_right (by omega) hi) (by decide))
theorem mem_exR {a x : List Int} : ∀ m, x ∈ exR a m ↔ ∃ j, j < m ∧ ¬ (j : Int) ∈ a ∧ x = a ++ [(j : Int)]
  | 0 => by simp [exR]
  | m + 1 => by
    simp only [exR, List.mem_append, mem_exR m]
    constructor
    · rintro (⟨j, h1, h2, h3⟩ | h)
      · exact ⟨j, by omega, h2, h3⟩
      · split at h
        · simp at h
        · rename_i hm
          exact ⟨m, by omega, hm, by simpa using h⟩
    · rintro ⟨j, h1, h2, h3⟩
      by_cases e : j = m
      · subst e; right; rw [if_neg h2]; simp [h3]
      · exact .inl ⟨j, by omega, h2, h3⟩
theorem mem_exL {n : Nat} {l : List (List Int)} {x : List Int} : ∀ k, k ≤ l.length → (x ∈ exL n l k ↔ ∃ q, q < k ∧ x ∈ exR (l.getD q []) n)
  | 0, _ => by simp [exL]
  | k + 1, hk => by
    rw [exL, List.mem_append, mem_exL (n := n) (l := l) (x := x) k (by omega)]
    constructor
    · rintro (⟨q, h1, h2⟩ | h)
      · exact ⟨q, by omega, h2⟩
      · exact ⟨k, by omega, h⟩
    · rintro ⟨q, h1, h2⟩
      by_cases e : q = k
      · subst e; exact .inr h2
      · exact .inl ⟨q, by omega, h2⟩
theorem mem_exL' {n : Nat} {l : List (List Int)} {x : List Int} : x ∈ exL n l l.length ↔ ∃ a, a ∈ l ∧ x ∈ exR a n := by
  rw [mem_exL _ (Nat.le_refl _)]
  constructor
  · rintro ⟨q, h1, h2⟩; exact ⟨_, getD_memR h1, h2⟩
  · rintro ⟨a, h1, h2⟩
    obtain ⟨q, hq, rfl⟩ := mem_getDR h1
    exact ⟨q, hq, h2⟩
/-- A beginning of an assignment of n. -/
def Beg (a : List Int) (n i : Nat) : Prop := a.length = i ∧ (∀ x, x ∈ a → 0 ≤ x ∧ x < n) ∧ a.Nodup
theorem mem_levL {n : Nat} : ∀ i a, a ∈ levL n i ↔ Beg a n i
  | 0, a => by
    simp only [levL, List.mem_singleton, Beg]
    constructor
    · rintro rfl; simp
    · rintro ⟨h, _⟩; exact List.eq_nil_of_length_eq_zero h
  | i + 1, a => by
    simp only [levL, mem_exL']
    constructor
    · rintro ⟨b, h1, h2⟩
      obtain ⟨h3, h4, h5⟩ := (mem_levL i b).1 h1
      obtain ⟨j, j1, j2, rfl⟩ := (mem_exR n).1 h2
      refine ⟨by simp [h3], fun x hx => ?_, ?_⟩
      · rcases List.mem_append.1 hx with h | h
        · exact h4 x h
        · simp at h; omega
      · exact List.nodup_append.2 ⟨h5, by simp, fun x hx y hy e => by simp at hy; subst hy; subst e; exact j2 hx⟩
    · rintro ⟨h1, h2, h3⟩
      have hne : a ≠ [] := by intro e; subst e; simp at h1
      have hs := List.dropLast_concat_getLast hne
      have hl := h2 _ (List.getLast_mem hne)
      have hnd : (a.dropLast ++ [a.getLast hne]).Nodup := by rw [hs]; exact h3
      obtain ⟨n1, _, n3⟩ := List.nodup_append.1 hnd
      refine ⟨a.dropLast, (mem_levL i _).2 ⟨by simp [h1], fun x hx => h2 x (List.dropLast_subset a hx), n1⟩, (mem_exR n).2 ⟨(a.getLast hne).toNat, by omega, fun hm => ?_, ?_⟩⟩
      · rw [show ((a.getLast hne).toNat : Int) = a.getLast hne by omega] at hm
        exact n3 _ hm _ (by simp) rfl
      · rw [show ((a.getLast hne).toNat : Int) = a.getLast hne by omega, hs]
theorem asg_beg {a : List Int} {n : Nat} : Asg a n ↔ Beg a n n := by
  constructor
  · intro h
    refine ⟨h.1, fun x hx => ?_, ?_⟩
    · obtain ⟨i, hi, rfl⟩ := mem_getDI hx
      exact (h.2 i hi).1
    · rw [List.Nodup, List.pairwise_iff_getElem]
      intro i j hi hj hij
      have := (h.2 j hj).2 i hij
      simpa [List.getD_eq_getElem?_getD, hi, hj] using this
  · rintro ⟨h1, h2, h3⟩
    refine ⟨h1, fun i hi => ⟨h2 _ (getD_memI hi), fun k hk => ?_⟩⟩
    have := List.pairwise_iff_getElem.1 h3 k i (by omega) hi hk
    simpa [List.getD_eq_getElem?_getD, hi, show k < a.length by omega] using this
theorem mem_allL {n : Nat} {a : List Int} : a ∈ allL n ↔ Asg a n := by rw [asg_beg]; exact mem_levL n a
theorem lexB_app {a : List Int} {x y : Int} (h : x < y) : ∀ b c : List Int, lexB (a ++ x :: b) (a ++ y :: c) = true := fun b c => by
  induction a with
  | nil => simp [lexB, show x ≠ y by omega]; exact h
  | cons z a ih => simp only [List.cons_append, lexB, if_true]; exact ih
theorem lexB_ext {a b : List Int} (hl : a.length = b.length) (h : lexB a b = true) : ∀ x y : List Int, lexB (a ++ x) (b ++ y) = true := fun x y => by
  induction a generalizing b with
  | nil =>
    cases b with
    | nil => simp [lexB] at h
    | cons _ _ => simp at hl
  | cons u a ih =>
    cases b with
    | nil => simp at hl
    | cons v b =>
      simp only [List.cons_append, lexB] at h ⊢
      split
      · rename_i e; rw [if_pos e] at h; exact ih (by simpa using hl) h
      · rename_i e; rw [if_neg e] at h; exact h
theorem exR_sorted {a : List Int} : ∀ m, (exR a m).Pairwise fun x y => lexB x y = true
  | 0 => .nil
  | m + 1 => by
    simp only [exR]
    refine List.pairwise_append.2 ⟨exR_sorted m, by split <;> simp, fun x hx y hy => ?_⟩
    obtain ⟨j, h1, h2, rfl⟩ := (mem_exR m).1 hx
    split at hy
    · simp at hy
    · simp at hy; subst hy; exact lexB_app (by omega) _ _
theorem exL_sorted {n i : Nat} {l : List (List Int)} (hs : l.Pairwise fun x y => lexB x y = true) (hlen : ∀ a, a ∈ l → a.length = i) : ∀ k, k ≤ l.length → (exL n l k).Pairwise fun x y => lexB x y = true
  | 0, _ => .nil
  | k + 1, hk => by
    simp only [exL]
    refine List.pairwise_append.2 ⟨exL_sorted hs hlen k (by omega), exR_sorted _, fun x hx y hy => ?_⟩
    obtain ⟨q, hq, hx2⟩ := (mem_exL k (by omega)).1 hx
    obtain ⟨j, _, _, rfl⟩ := (mem_exR n).1 hx2
    obtain ⟨j2, _, _, rfl⟩ := (mem_exR n).1 hy
    refine lexB_ext (by rw [hlen _ (getD_memR (by omega)), hlen _ (getD_memR (by omega))]) ?_ _ _
    have := List.pairwise_iff_getElem.1 hs q k (by omega) (by omega) hq
    simpa [List.getD_eq_getElem?_getD, show q < l.length by omega, show k < l.length by omega] using this
theorem levL_sorted {n : Nat} : ∀ i, (levL n i).Pairwise fun x y => lexB x y = true
  | 0 => by simp [levL]
  | i + 1 => exL_sorted (levL_sorted i) (fun a ha => ((mem_levL i a).1 ha).1) _ (Nat.le_refl _)
theorem allL_sorted {n : Nat} : (allL n).Pairwise fun x y => lexB x y = true := levL_sorted n
theorem lexB_irr : ∀ a : List Int, lexB a a = false
  | [] => rfl
  | x :: a => by simp [lexB, lexB_irr a]
theorem lexB_trans : ∀ a b c : List Int, lexB a b = true → lexB b c = true → lexB a c = true
  | [], [], _, h, _ => by simp [lexB] at h
  | [], _ :: _, [], _, h => by simp [lexB] at h
  | [], _ :: _, _ :: _, _, _ => rfl
  | _ :: _, [], _, h, _ => by simp [lexB] at h
  | _ :: _, _ :: _, [], _, h => by simp [lexB] at h
  | x :: a, y :: b, z :: c, h1, h2 => by
    simp only [lexB] at h1 h2 ⊢
    by_cases e1 : x = y
    · subst e1
      rw [if_pos rfl] at h1
      by_cases e2 : x = z
      · rw [if_pos e2] at h2 ⊢; exact lexB_trans a b c h1 h2
      · rw [if_neg e2] at h2 ⊢; exact h2
    · rw [if_neg e1, decide_eq_true_eq] at h1
      by_cases e2 : y = z
      · subst e2; rw [if_neg e1]; simpa using h1
      · rw [if_neg e2, decide_eq_true_eq] at h2
        rw [if_neg (by omega), decide_eq_true_eq]; omega
theorem lexB_total : ∀ a b : List Int, a.length = b.length → a = b ∨ lexB a b = true ∨ lexB b a = true
  | [], [], _ => .inl rfl
  | [], _ :: _, h => by simp at h
  | _ :: _, [], h => by simp at h
  | x :: a, y :: b, h => by
    simp only [lexB]
    by_cases e : x = y
    · subst e
      rcases lexB_total a b (by simpa using h) with h | h | h
      · exact .inl (by rw [h])
      · exact .inr (.inl (by rw [if_pos rfl]; exact h))
      · exact .inr (.inr (by rw [if_pos rfl]; exact h))
    · right
      rw [if_neg e, if_neg (fun h => e h.symm), decide_eq_true_eq, decide_eq_true_eq]
      omega
theorem allL_nodup {n : Nat} : (allL n).Nodup := allL_sorted.imp fun {a b} h e => by subst e; rw [lexB_irr] at h; cases h
theorem allL_pos {n : Nat} : 0 < (allL n).length := by
  have : ((List.range n).map fun i : Nat => (i : Int)) ∈ allL n := mem_allL.2 (idn_asg n)
  exact List.length_pos_of_mem this
/-- The earlier one of two in all of them comes first. -/
theorem allL_lt {n i j : Nat} (hi : i < j) (hj : j < (allL n).length) : lexB ((allL n).getD i []) ((allL n).getD j []) = true := by
  have := List.pairwise_iff_getElem.1 (allL_sorted (n := n)) i j (by omega) hj hi
  simpa [List.getD_eq_getElem?_getD, hj, show i < (allL n).length by omega] using this
end Go.Proofs.Ytehjmakiljhjdaa
namespace Go.Proofs.Ytehjmakiljhjdaa
open Go Go.RowKit Go.Proofs.Ytehjmakiljhjdaa.VW
attribute [local irreducible] W Ops OrdA VW.Ord OrdX
/-- An assignment out of any list. -/
def ordL (l : List Int) : Nat → List Int
  | 0 => []
  | i + 1 =>
    let k : Nat := if i < l.length then (modI (l.getD i 0) ((i : Int) + 1)).toNat else i
    (ordL l i).take k ++ [(i : Int)] ++ (ordL l i).drop k
theorem ordL_beg (l : List Int) : ∀ i, Beg (ordL l i) i i
  | 0 => ⟨rfl, fun x hx => by simp [ordL] at hx, by simp [ordL]⟩
  | i + 1 => by
    obtain ⟨h1, h2, h3⟩ := ordL_beg l i
    simp only [ordL]
    generalize (if i < l.length then (modI (l.getD i 0) ((i : Int) + 1)).toNat else i) = k
    have hp : ((ordL l i).take k ++ [(i : Int)] ++ (ordL l i).drop k).Perm ((i : Int) :: ordL l i) := by
      have h4 := List.take_append_drop k (ordL l i)
      have : ((ordL l i).take k ++ [(i : Int)] ++ (ordL l i).drop k).Perm ((i : Int) :: ((ordL l i).take k ++ (ordL l i).drop k)) := by
        rw [List.append_assoc, List.singleton_append]
        exact List.perm_middle
      rwa [h4] at this
    refine ⟨by rw [hp.length_eq]; simp [h1], fun x hx => ?_, ?_⟩
    · rcases List.mem_cons.1 (hp.mem_iff.1 hx) with e | e
      · omega
      · have := h2 x e; omega
    · rw [hp.nodup_iff, List.nodup_cons]
      exact ⟨fun e => by have := h2 _ e; omega, h3⟩
theorem ordL_asg (l : List Int) (n : Nat) : Asg (ordL l n) n := asg_beg.2 (ordL_beg l n)
set_option maxHeartbeats 1000000 in
theorem order_c {w : World} {lv : Value} {l : List Int} (h : SlI w lv l) {n : Nat} (hn : n ≤ 7) : Calls Try.prog 28 #[lv, .int .i64 (n : Int)] w (Ret fun r w' => OI 3 (Value.int .i64) w w' r (ordL l n)) := by
  have hl := Sl.len h
  obtain ⟨Al, cl, rfl⟩ := Sl.shape h
  refine calls_W (vs := [_, _]) Try.func28 rfl (by kernel_rfl) rfl ?_
  (repeat (first | with_reducible refine W.seq ?_ | with_reducible refine Ops.nil ?_ | with_reducible refine W.region ?_ | refine z_p (kk := ?_) | refine z_a (kk := ?_) | refine z_y (kk := ?_) | refine z_n (kk := ?_) | refine z_u (kk := ?_) | with_reducible refine W.skip ?_ | with_reducible refine W.endb ?_ | with_reducible refine W.block ?_ | refine W.exit rfl ?_ | refine z_l (kk := ?_) | refine z_f (kk := ?_) | refine z_M (kk := ?_) | refine z_m (kk := ?_) | refine z_e (kk := ?_) | refine z_E (kk := ?_) | refine z_d (kk := ?_) | refine z_I (kk := fun _ => ?_) | refine z_J (kk := fun _ => ?_) | refine z_K (kk := fun _ => ?_) | refine z_L (kk := fun _ => ?_) | refine z_T (kk := ?_) | refine z_F (kk := ?_) | refine z_r (kk := fun _ _ _ _ => ?_) | refine z_D (kk := ?_) | refine z_g (kk := ?_) | refine z_h (kk := ?_)))
  refine W.loop (fun m ρ w3 => ∃ (i : Nat) (ov : Value), m = n - i ∧ i ≤ n ∧ ρ = [(0, .slice Al l.length cl), (1, .int .i64 (n : Int)), (5, ov), (6, .int .i64 i)] ∧ OI 3 (Value.int .i64) w w3 ov (ordL l i))
    ⟨_, _, ⟨0, _, rfl, Nat.zero_le _, rfl, OI.nil (Below.refl _ _)⟩, (by repeat (first | exact trivial | refine And.intro rfl ?_))⟩ ?_
  rintro m ρ w3 ⟨i, ov, rfl, hi, rfl, hO⟩
  have hb3 := hO.bel
  have hlen := (ordL_beg l i).1
  (repeat (first | with_reducible refine W.seq ?_ | with_reducible refine Ops.nil ?_ | with_reducible refine W.region ?_ | refine z_p (kk := ?_) | refine z_a (kk := ?_) | refine z_y (kk := ?_) | refine z_n (kk := ?_) | refine z_u (kk := ?_) | with_reducible refine W.skip ?_ | with_reducible refine W.endb ?_ | with_reducible refine W.block ?_ | refine W.exit rfl ?_ | refine z_l (kk := ?_) | refine z_f (kk := ?_) | refine z_M (kk := ?_) | refine z_m (kk := ?_) | refine z_e (kk := ?_) | refine z_E (kk := ?_) | refine z_d (kk := ?_) | refine z_I (kk := fun _ => ?_) | refine z_J (kk := fun _ => ?_) | refine z_K (kk := fun _ => ?_) | refine z_L (kk := fun _ => ?_) | refine z_T (kk := ?_) | refine z_F (kk := ?_) | refine z_r (kk := fun _ _ _ _ => ?_) | refine z_D (kk := ?_) | refine z_g (kk := ?_) | refine z_h (kk := ?_)))
  (first | refine W.condD rfl (fun hc => ?_) (fun hc => ?_) | refine W.condE rfl (fun hc => ?_) (fun hc => ?_) | refine W.condN rfl (fun hc => ?_) (fun hc => ?_) | refine W.cond rfl (fun hc => ?_) (fun hc => ?_))
  · have hin : i < n := by omega
    obtain ⟨A, cp, rfl⟩ := hO.sh
    have hcap : (ordL l i).length ≤ cp := own_cap hO.own
    have hsl3 : SlI w3 (.slice A (ordL l i).length cp) (ordL l i) := hO.sl
    (repeat (first | with_reducible refine W.seq ?_ | with_reducible refine Ops.nil ?_ | with_reducible refine W.region ?_ | refine z_p (kk := ?_) | refine z_a (kk := ?_) | refine z_y (kk := ?_) | refine z_n (kk := ?_) | refine z_u (kk := ?_) | with_reducible refine W.skip ?_ | with_reducible refine W.endb ?_ | with_reducible refine W.block ?_ | refine W.exit rfl ?_ | refine z_l (kk := ?_) | refine z_f (kk := ?_) | refine z_M (kk := ?_) | refine z_m (kk := ?_) | refine z_e (kk := ?_) | refine z_E (kk := ?_) | refine z_d (kk := ?_) | refine z_I (kk := fun _ => ?_) | refine z_J (kk := fun _ => ?_) | refine z_K (kk := fun _ => ?_) | refine z_L (kk := fun _ => ?_) | refine z_T (kk := ?_) | refine z_F (kk := ?_) | refine z_r (kk := fun _ _ _ _ => ?_) | refine z_D (kk := ?_) | refine z_g (kk := ?_) | refine z_h (kk := ?_)))
    by_cases hil : i < l.length
    · have hmb := modI_bd (l.getD i 0) (n := (i : Int) + 1) (by omega)
      refine W.condT rfl (by first | rfl | assumption | (simp only [bnf] <;> omega) | (simp only [*, bnf]; done) | fail) ?_
      (repeat (first | with_reducible refine W.seq ?_ | with_reducible refine Ops.nil ?_ | with_reducible refine W.region ?_ | refine z_p (kk := ?_) | refine z_a (kk := ?_) | refine z_y (kk := ?_) | refine z_n (kk := ?_) | refine z_u (kk := ?_) | with_reducible refine W.skip ?_ | with_reducible refine W.endb ?_ | with_reducible refine W.block ?_ | refine W.exit rfl ?_ | refine z_l (kk := ?_) | refine z_f (kk := ?_) | refine z_M (kk := ?_) | refine z_m (kk := ?_) | refine z_e (kk := ?_) | refine z_E (kk := ?_) | refine z_d (kk := ?_) | refine z_I (kk := fun _ => ?_) | refine z_J (kk := fun _ => ?_) | refine z_K (kk := fun _ => ?_) | refine z_L (kk := fun _ => ?_) | refine z_T (kk := ?_) | refine z_F (kk := ?_) | refine z_r (kk := fun _ _ _ _ => ?_) | refine z_D (kk := ?_) | refine z_g (kk := ?_) | refine z_h (kk := ?_)))
      refine Ops.callS rfl rfl rfl rfl rfl (mod_c _ _ _ (by omega) (by omega)) ?_
      obtain ⟨k, hk⟩ := Int.eq_ofNat_of_zero_le hmb.1
      rw [hk] at hmb
      simp only [Int.toNat_natCast, hk]
      (repeat (first | with_reducible refine W.seq ?_ | with_reducible refine Ops.nil ?_ | with_reducible refine W.region ?_ | refine z_p (kk := ?_) | refine z_a (kk := ?_) | refine z_y (kk := ?_) | refine z_n (kk := ?_) | refine z_u (kk := ?_) | with_reducible refine W.skip ?_ | with_reducible refine W.endb ?_ | with_reducible refine W.block ?_ | refine W.exit rfl ?_ | refine z_l (kk := ?_) | refine z_f (kk := ?_) | refine z_M (kk := ?_) | refine z_m (kk := ?_) | refine z_e (kk := ?_) | refine z_E (kk := ?_) | refine z_d (kk := ?_) | refine z_I (kk := fun _ => ?_) | refine z_J (kk := fun _ => ?_) | refine z_K (kk := fun _ => ?_) | refine z_L (kk := fun _ => ?_) | refine z_T (kk := ?_) | refine z_F (kk := ?_) | refine z_r (kk := fun _ _ _ _ => ?_) | refine z_D (kk := ?_) | refine z_g (kk := ?_) | refine z_h (kk := ?_)))
      refine Ops.slH rfl rfl rfl rfl rfl rfl rfl (by omega) (by omega) ?_
      rw [Int.toNat_natCast]
      refine Ops.appO (enc := Value.int .i64) (w0 := w3) 0 rfl rfl rfl rfl rfl rfl rfl rfl rfl rfl (OI.nil (Below.refl _ _)) (sl_take hsl3 k (by omega)) (Below.refl _ _) (fun _ => rfl) (by simp only [List.length_take, List.length_nil]; omega) (fun v5 w5 hO5 k5 hn5 => ?_)
      rw [List.nil_append] at hO5
      (repeat (first | with_reducible refine W.seq ?_ | with_reducible refine Ops.nil ?_ | with_reducible refine W.region ?_ | refine z_p (kk := ?_) | refine z_a (kk := ?_) | refine z_y (kk := ?_) | refine z_n (kk := ?_) | refine z_u (kk := ?_) | with_reducible refine W.skip ?_ | with_reducible refine W.endb ?_ | with_reducible refine W.block ?_ | refine W.exit rfl ?_ | refine z_l (kk := ?_) | refine z_f (kk := ?_) | refine z_M (kk := ?_) | refine z_m (kk := ?_) | refine z_e (kk := ?_) | refine z_E (kk := ?_) | refine z_d (kk := ?_) | refine z_I (kk := fun _ => ?_) | refine z_J (kk := fun _ => ?_) | refine z_K (kk := fun _ => ?_) | refine z_L (kk := fun _ => ?_) | refine z_T (kk := ?_) | refine z_F (kk := ?_) | refine z_r (kk := fun _ _ _ _ => ?_) | refine z_D (kk := ?_) | refine z_g (kk := ?_) | refine z_h (kk := ?_)))
      refine Ops.pushO (enc := Value.int .i64) (u := (i : Int)) rfl rfl rfl rfl rfl rfl rfl rfl rfl rfl rfl rfl (fun _ => rfl) rfl hO5 (by simp only [List.length_take]; omega) (fun v6 _ w6 hO6 k6 hn6 => ?_)
      (repeat (first | with_reducible refine W.seq ?_ | with_reducible refine Ops.nil ?_ | with_reducible refine W.region ?_ | refine z_p (kk := ?_) | refine z_a (kk := ?_) | refine z_y (kk := ?_) | refine z_n (kk := ?_) | refine z_u (kk := ?_) | with_reducible refine W.skip ?_ | with_reducible refine W.endb ?_ | with_reducible refine W.block ?_ | refine W.exit rfl ?_ | refine z_l (kk := ?_) | refine z_f (kk := ?_) | refine z_M (kk := ?_) | refine z_m (kk := ?_) | refine z_e (kk := ?_) | refine z_E (kk := ?_) | refine z_d (kk := ?_) | refine z_I (kk := fun _ => ?_) | refine z_J (kk := fun _ => ?_) | refine z_K (kk := fun _ => ?_) | refine z_L (kk := fun _ => ?_) | refine z_T (kk := ?_) | refine z_F (kk := ?_) | refine z_r (kk := fun _ _ _ _ => ?_) | refine z_D (kk := ?_) | refine z_g (kk := ?_) | refine z_h (kk := ?_)))
      refine Ops.slL rfl rfl rfl rfl rfl rfl rfl (by omega) (by omega) hcap (fun A' c' hA' => ?_)
      rw [Int.toNat_natCast] at hA' ⊢
      refine Ops.appO (enc := Value.int .i64) 0 rfl rfl rfl rfl rfl rfl rfl rfl rfl rfl hO6 (sl_drop (c' := c') (Sl.below hsl3 hO6.bel) hA') (Below.refl _ _) (fun _ => rfl) (by simp only [List.length_append, List.length_take, List.length_drop, List.length_cons, List.length_nil]; omega) (fun v7 w7 hO7 k7 hn7 => ?_)
      have hO8 := hO7.up hb3
      have e : (ordL l i).take k ++ [(i : Int)] ++ (ordL l i).drop k = ordL l (i + 1) := by
        simp only [ordL]
        rw [if_pos hil, hk]; rfl
      rw [e] at hO8
      (repeat (first | with_reducible refine W.seq ?_ | with_reducible refine Ops.nil ?_ | with_reducible refine W.region ?_ | refine z_p (kk := ?_) | refine z_a (kk := ?_) | refine z_y (kk := ?_) | refine z_n (kk := ?_) | refine z_u (kk := ?_) | with_reducible refine W.skip ?_ | with_reducible refine W.endb ?_ | with_reducible refine W.block ?_ | refine W.exit rfl ?_ | refine z_l (kk := ?_) | refine z_f (kk := ?_) | refine z_M (kk := ?_) | refine z_m (kk := ?_) | refine z_e (kk := ?_) | refine z_E (kk := ?_) | refine z_d (kk := ?_) | refine z_I (kk := fun _ => ?_) | refine z_J (kk := fun _ => ?_) | refine z_K (kk := fun _ => ?_) | refine z_L (kk := fun _ => ?_) | refine z_T (kk := ?_) | refine z_F (kk := ?_) | refine z_r (kk := fun _ _ _ _ => ?_) | refine z_D (kk := ?_) | refine z_g (kk := ?_) | refine z_h (kk := ?_)))
      exact W.endl ⟨_, _, ⟨⟨i + 1, _, rfl, by omega, rfl, hO8⟩, by omega⟩, (by repeat (first | exact trivial | refine And.intro rfl ?_))⟩
    · refine W.condF rfl (by first | rfl | assumption | (simp only [bnf] <;> omega) | (simp only [*, bnf]; done) | fail) ?_
      (repeat (first | with_reducible refine W.seq ?_ | with_reducible refine Ops.nil ?_ | with_reducible refine W.region ?_ | refine z_p (kk := ?_) | refine z_a (kk := ?_) | refine z_y (kk := ?_) | refine z_n (kk := ?_) | refine z_u (kk := ?_) | with_reducible refine W.skip ?_ | with_reducible refine W.endb ?_ | with_reducible refine W.block ?_ | refine W.exit rfl ?_ | refine z_l (kk := ?_) | refine z_f (kk := ?_) | refine z_M (kk := ?_) | refine z_m (kk := ?_) | refine z_e (kk := ?_) | refine z_E (kk := ?_) | refine z_d (kk := ?_) | refine z_I (kk := fun _ => ?_) | refine z_J (kk := fun _ => ?_) | refine z_K (kk := fun _ => ?_) | refine z_L (kk := fun _ => ?_) | refine z_T (kk := ?_) | refine z_F (kk := ?_) | refine z_r (kk := fun _ _ _ _ => ?_) | refine z_D (kk := ?_) | refine z_g (kk := ?_) | refine z_h (kk := ?_)))
      refine Ops.slH rfl rfl rfl rfl rfl rfl rfl (by omega) (by omega) ?_
      rw [Int.toNat_natCast]
      refine Ops.appO (enc := Value.int .i64) (w0 := w3) 0 rfl rfl rfl rfl rfl rfl rfl rfl rfl rfl (OI.nil (Below.refl _ _)) (sl_take hsl3 i (by omega)) (Below.refl _ _) (fun _ => rfl) (by simp only [List.length_take, List.length_nil]; omega) (fun v5 w5 hO5 k5 hn5 => ?_)
      rw [List.nil_append] at hO5
      (repeat (first | with_reducible refine W.seq ?_ | with_reducible refine Ops.nil ?_ | with_reducible refine W.region ?_ | refine z_p (kk := ?_) | refine z_a (kk := ?_) | refine z_y (kk := ?_) | refine z_n (kk := ?_) | refine z_u (kk := ?_) | with_reducible refine W.skip ?_ | with_reducible refine W.endb ?_ | with_reducible refine W.block ?_ | refine W.exit rfl ?_ | refine z_l (kk := ?_) | refine z_f (kk := ?_) | refine z_M (kk := ?_) | refine z_m (kk := ?_) | refine z_e (kk := ?_) | refine z_E (kk := ?_) | refine z_d (kk := ?_) | refine z_I (kk := fun _ => ?_) | refine z_J (kk := fun _ => ?_) | refine z_K (kk := fun _ => ?_) | refine z_L (kk := fun _ => ?_) | refine z_T (kk := ?_) | refine z_F (kk := ?_) | refine z_r (kk := fun _ _ _ _ => ?_) | refine z_D (kk := ?_) | refine z_g (kk := ?_) | refine z_h (kk := ?_)))
      refine Ops.pushO (enc := Value.int .i64) (u := (i : Int)) rfl rfl rfl rfl rfl rfl rfl rfl rfl rfl rfl rfl (fun _ => rfl) rfl hO5 (by simp only [List.length_take]; omega) (fun v6 _ w6 hO6 k6 hn6 => ?_)
      (repeat (first | with_reducible refine W.seq ?_ | with_reducible refine Ops.nil ?_ | with_reducible refine W.region ?_ | refine z_p (kk := ?_) | refine z_a (kk := ?_) | refine z_y (kk := ?_) | refine z_n (kk := ?_) | refine z_u (kk := ?_) | with_reducible refine W.skip ?_ | with_reducible refine W.endb ?_ | with_reducible refine W.block ?_ | refine W.exit rfl ?_ | refine z_l (kk := ?_) | refine z_f (kk := ?_) | refine z_M (kk := ?_) | refine z_m (kk := ?_) | refine z_e (kk := ?_) | refine z_E (kk := ?_) | refine z_d (kk := ?_) | refine z_I (kk := fun _ => ?_) | refine z_J (kk := fun _ => ?_) | refine z_K (kk := fun _ => ?_) | refine z_L (kk := fun _ => ?_) | refine z_T (kk := ?_) | refine z_F (kk := ?_) | refine z_r (kk := fun _ _ _ _ => ?_) | refine z_D (kk := ?_) | refine z_g (kk := ?_) | refine z_h (kk := ?_)))
      refine Ops.slL rfl rfl rfl rfl rfl rfl rfl (by omega) (by omega) hcap (fun A' c' hA' => ?_)
      rw [Int.toNat_natCast] at hA' ⊢
      refine Ops.appO (enc := Value.int .i64) 0 rfl rfl rfl rfl rfl rfl rfl rfl rfl rfl hO6 (sl_drop (c' := c') (Sl.below hsl3 hO6.bel) hA') (Below.refl _ _) (fun _ => rfl) (by simp only [List.length_append, List.length_take, List.length_drop, List.length_cons, List.length_nil]; omega) (fun v7 w7 hO7 k7 hn7 => ?_)
      have hO8 := hO7.up hb3
      have e : (ordL l i).take i ++ [(i : Int)] ++ (ordL l i).drop i = ordL l (i + 1) := by
        simp only [ordL]
        rw [if_neg hil]
      rw [e] at hO8
      (repeat (first | with_reducible refine W.seq ?_ | with_reducible refine Ops.nil ?_ | with_reducible refine W.region ?_ | refine z_p (kk := ?_) | refine z_a (kk := ?_) | refine z_y (kk := ?_) | refine z_n (kk := ?_) | refine z_u (kk := ?_) | with_reducible refine W.skip ?_ | with_reducible refine W.endb ?_ | with_reducible refine W.block ?_ | refine W.exit rfl ?_ | refine z_l (kk := ?_) | refine z_f (kk := ?_) | refine z_M (kk := ?_) | refine z_m (kk := ?_) | refine z_e (kk := ?_) | refine z_E (kk := ?_) | refine z_d (kk := ?_) | refine z_I (kk := fun _ => ?_) | refine z_J (kk := fun _ => ?_) | refine z_K (kk := fun _ => ?_) | refine z_L (kk := fun _ => ?_) | refine z_T (kk := ?_) | refine z_F (kk := ?_) | refine z_r (kk := fun _ _ _ _ => ?_) | refine z_D (kk := ?_) | refine z_g (kk := ?_) | refine z_h (kk := ?_)))
      exact W.endl ⟨_, _, ⟨⟨i + 1, _, rfl, by omega, rfl, hO8⟩, by omega⟩, (by repeat (first | exact trivial | refine And.intro rfl ?_))⟩
  · have : i = n := by omega
    subst this
    (repeat (first | with_reducible refine W.seq ?_ | with_reducible refine Ops.nil ?_ | with_reducible refine W.region ?_ | refine z_p (kk := ?_) | refine z_a (kk := ?_) | refine z_y (kk := ?_) | refine z_n (kk := ?_) | refine z_u (kk := ?_) | with_reducible refine W.skip ?_ | with_reducible refine W.endb ?_ | with_reducible refine W.block ?_ | refine W.exit rfl ?_ | refine z_l (kk := ?_) | refine z_f (kk := ?_) | refine z_M (kk := ?_) | refine z_m (kk := ?_) | refine z_e (kk := ?_) | refine z_E (kk := ?_) | refine z_d (kk := ?_) | refine z_I (kk := fun _ => ?_) | refine z_J (kk := fun _ => ?_) | refine z_K (kk := fun _ => ?_) | refine z_L (kk := fun _ => ?_) | refine z_T (kk := ?_) | refine z_F (kk := ?_) | refine z_r (kk := fun _ _ _ _ => ?_) | refine z_D (kk := ?_) | refine z_g (kk := ?_) | refine z_h (kk := ?_)))
    exact W.fret rfl hO
end Go.Proofs.Ytehjmakiljhjdaa
namespace Go.Proofs.Ytehjmakiljhjdaa.VW
open Go Go.RowKit
theorem RW.congr {w0 w : World} {ov : Value} {cvs : List Value} {n : Nat} {T T' : Nat → List Int} (h : RW w0 w ov cvs n T) (e : ∀ q, q < n → T q = T' q) : RW w0 w ov cvs n T' := ⟨h.o, h.len, fun j hj => by rw [← e j hj]; exact h.rows j hj, h.apart⟩
/-- A list of lists of the call's own, all of them apart. -/
def RL (w0 w : World) (ov : Value) (cvs : List Value) (c : List (List Int)) : Prop := RW w0 w ov cvs c.length (fun q => c.getD q [])
theorem RL.nil {w0 w : World} (h : Below w0.heap.size w0 w) : RL w0 w (.slice none 0 0) [] [] := RW.nil h
theorem RL.push {w0 w1 w2 w' : World} {ov ov' cv : Value} {cvs : List Value} {c : List (List Int)} {xs : List Int} (h : RL w0 w1 ov cvs c) (hR : OI 3 (Value.int .i64) w1 w2 cv xs)
    (hO : OI 23 (fun v : Value => v) w0 w' ov' (cvs ++ [cv])) (k : Kp (fun i => ov.ownBlock = some i) w2 w') (hn : ∀ i, ov'.ownBlock = some i → ov.ownBlock = some i ∨ w2.heap.size ≤ i) : RL w0 w' ov' (cvs ++ [cv]) (c ++ [xs]) := by
  have h1 : RW w0 w1 ov cvs c.length (fun q => (c ++ [xs]).getD q []) := RW.congr h (fun q hq => (appV_getD hq).symm)
  have hR2 : OI 3 (Value.int .i64) w1 w2 cv ((c ++ [xs]).getD c.length []) := by rw [appV_last rfl]; exact hR
  have := RW.push (T := fun q => (c ++ [xs]).getD q []) h1 hR2 hO k hn
  unfold RL
  rw [List.length_append, List.length_singleton]
  exact this
theorem RL.below {w0 w w' : World} {ov : Value} {cvs : List Value} {c : List (List Int)} (h : RL w0 w ov cvs c) (k : Below w.heap.size w w') : RL w0 w' ov cvs c := RW.below h k
theorem RL.up {w0 w1 w : World} {ov : Value} {cvs : List Value} {c : List (List Int)} (h : RL w1 w ov cvs c) (k : Below w0.heap.size w0 w1) : RL w0 w ov cvs c := RW.up h k
theorem RL.rowsM {w0 w : World} {ov : Value} {cvs : List Value} {c : List (List Int)} (h : RL w0 w ov cvs c) : RowsM w ov c := by
  have := RW.rowsM h
  rwa [show (List.range c.length).map (fun q => c.getD q []) = c from List.ext_getElem (by simp) fun i h1 h2 => by simp [List.getD_eq_getElem?_getD, h2]] at this
theorem RL.one {w w' : World} {r : Nat} (h : Mk w w' r (.cells #[.slice none 0 0] 23)) : RL w w' (.slice (some ⟨r, 0, none⟩) 1 1) [.slice none 0 0] [[]] := by
  have hr := h.r_eq
  refine ⟨⟨Below.put (Below.refl _ _) h.kp (fun _ e => e.elim), own_one h, fun k hk => by simp [Value.ownBlock] at hk; omega⟩, rfl, fun j hj => ?_, fun j hj b e => ?_⟩
  · have : j = 0 := by simp at hj; omega
    subst this
    exact OI.nil (Below.put (Below.refl _ _) h.kp (fun _ e => e.elim))
  · have : j = 0 := by simp at hj; omega
    subst this
    simp [Value.ownBlock] at e
end Go.Proofs.Ytehjmakiljhjdaa.VW
