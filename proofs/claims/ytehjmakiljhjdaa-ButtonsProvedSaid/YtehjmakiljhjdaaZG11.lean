/- A part of the walk: what this seat's statements share. -/
import Derived.Test.YtehjmakiljhjdaaZG10
import Derived.Test.YtehjmakiljhjdaaZG8
import Derived.Test.YtehjmakiljhjdaaZG9
set_option linter.unusedVariables false
set_option linter.unusedSimpArgs false
set_option linter.unusedSectionVars false
namespace Go.Proofs.Ytehjmakiljhjdaa
open Go Go.RowKit Go.Proofs.Ytehjmakiljhjdaa.VW
attribute [local irreducible] W Ops OrdA VW.Ord OrdX
set_option maxHeartbeats 8000000 in
set_option maxRecDepth 20000 in
theorem provedLaw_c {w : World} {mv lv : Value} {n : Int} {l : List (List Int)} {by_ : List Int} (hm : ArgR w mv l) (hl : Arg w lv by_) :
    Calls Try.prog 6 #[.int .i64 n, mv, lv] w (Ret fun r w' => r = .bool true ∧ Below w.heap.size w w') := by
  refine calls_W (vs := [_, _, _]) Try.func6 rfl (by kernel_rfl) rfl ?_
  (repeat (first | with_reducible refine W.seq ?_ | with_reducible refine Ops.nil ?_ | with_reducible refine W.region ?_ | refine z_p (kk := ?_)))
  refine Ops.callS rfl rfl rfl rfl rfl (mod_c _ _ _ (by omega) (by omega)) ?_
  have hmb := modI_bd n (n := 7) (by omega)
  obtain ⟨n0, hn0⟩ := Int.eq_ofNat_of_zero_le hmb.1
  rw [hn0] at hmb ⊢
  (repeat (first | with_reducible refine W.seq ?_ | with_reducible refine Ops.nil ?_ | with_reducible refine W.region ?_ | refine z_p (kk := ?_) | refine z_a (kk := ?_)))
  rw [show (1 : Int) + ((n0 : Nat) : Int) = ((n0 + 1 : Nat) : Int) by omega]
  refine Ops.call rfl rfl rfl rfl rfl (tame_c hm.1 (n := n0 + 1) (by omega) (by omega) (by omega)) (fun tv w2 hR => ?_)
  obtain ⟨cvs, hR⟩ := hR
  have hb2 := hR.o.bel
  have hM2 := hR.rowsM
  change RowsM w2 tv (tmC l (n0 + 1) 1000) at hM2
  have hC := tmC_cst l (n := n0 + 1) (most := 1000) (by omega) (by omega) (by omega) (by omega)
  have hcl := tmC_len l (n0 + 1) 1000
  generalize tmC l (n0 + 1) 1000 = c at *
  clear hR
  have hcB : costsB c = true := costs_iff.2 hC
  obtain ⟨Ac, cc, rfl⟩ := hM2.sl
  (repeat (first | with_reducible refine W.seq ?_ | with_reducible refine Ops.nil ?_ | with_reducible refine W.region ?_ | refine z_p (kk := ?_)))
  refine Ops.call rfl rfl rfl rfl rfl (Best_c hM2) (fun r w3 hR => ?_)
  obtain ⟨hb3, -, hR⟩ := hR
  obtain ⟨av, uv, vv, u, v, rfl, ha, hu, hv, hP⟩ := hR hcB
  have hM3 := hM2.below hb3
  (repeat (first | with_reducible refine W.seq ?_ | with_reducible refine Ops.nil ?_ | with_reducible refine W.region ?_ | refine z_p (kk := ?_)))
  refine Ops.call rfl rfl rfl rfl rfl (Slack_c hM3) (fun r w4 hR => ?_)
  obtain ⟨sv, scv, rfl, hS⟩ := hR.2 hcB
  have hb4 := hS.o.bel
  have hMS : RowsM w4 sv (slackS c) := hS.rowsM
  clear hS
  have hM4 := hM3.below hb4
  (repeat (first | with_reducible refine W.seq ?_ | with_reducible refine Ops.nil ?_ | with_reducible refine W.region ?_ | refine z_p (kk := ?_)))
  refine Ops.call rfl rfl rfl rfl rfl (Fixed_c hM4) (fun r w5 hR => ?_)
  obtain ⟨hb5, -, hR⟩ := hR
  obtain ⟨xv, rfl, hX⟩ := hR hcB
  have hM5 := hM4.below hb5
  (repeat (first | with_reducible refine W.seq ?_ | with_reducible refine Ops.nil ?_ | with_reducible refine W.region ?_ | refine z_p (kk := ?_)))
  refine Ops.call rfl rfl rfl rfl rfl (pays_c hM5) (fun r w6 hR => ?_)
  obtain ⟨pv, rfl, hp⟩ := hR.2 hcB
  have hb6 := hp.bel
  have hM6 := hM5.below hb6
  have hb36 := Below.via hb4 (Below.via hb5 hb6)
  have hb26 := Below.via hb3 hb36
  (repeat (first | with_reducible refine W.seq ?_ | with_reducible refine Ops.nil ?_ | with_reducible refine W.region ?_ | refine z_p (kk := ?_)))
  refine Ops.call rfl rfl rfl rfl rfl (order_c (Sl.below hl.1 (Below.via hb2 hb26)) (n := n0 + 1) (by omega)) (fun ov w7 hO => ?_)
  have hb7 := hO.bel
  have hAo := ordL_asg by_ (n0 + 1)
  generalize ordL by_ (n0 + 1) = o at *
  rw [← hcl] at hAo
  have hM7 := hM6.below hb7
  have hb37 := Below.via hb36 hb7
  (repeat (first | with_reducible refine W.seq ?_ | with_reducible refine Ops.nil ?_ | with_reducible refine W.region ?_ | refine z_p (kk := ?_)))
  refine Ops.call rfl rfl rfl rfl rfl (Total_c hM7 (oi_arg (ha.below hb37))) (fun r w8 hR => ?_)
  obtain ⟨rfl, hb8⟩ := hR
  rw [if_pos ⟨hcB, firstS_Asg⟩, first_tot]
  have hM8 := hM7.below hb8
  have hb78 := hb8
  (repeat (first | with_reducible refine W.seq ?_ | with_reducible refine Ops.nil ?_ | with_reducible refine W.region ?_ | refine z_p (kk := ?_)))
  refine Ops.call rfl rfl rfl rfl rfl (Total_c hM8 (oi_arg (hO.below hb8))) (fun r w9 hR => ?_)
  obtain ⟨rfl, hb9⟩ := hR
  rw [if_pos ⟨hcB, hAo⟩]
  have hM9 := hM8.below hb9
  have hb79 := Below.via hb8 hb9
  have hb39 := Below.via hb37 hb79
  have hmin := min_le hAo
  have htb := totB hC hAo
  have hmB := minB hC
  have hF := pf hC hP hAo
  (repeat (first | with_reducible refine W.seq ?_ | with_reducible refine Ops.nil ?_ | with_reducible refine W.region ?_ | refine z_p (kk := ?_) | refine z_y (kk := ?_) | refine z_h (kk := ?_)))
  refine Ops.call rfl rfl rfl rfl rfl (proves_c hM9 hC (Sl.below ha.sl hb39) (Sl.below hu.sl hb39) (Sl.below hv.sl hb39)) (fun r w10 hR => ?_)
  obtain ⟨rfl, hb10⟩ := hR
  rw [decide_eq_true hP]
  have hb710 := Below.via hb79 hb10
  have hb610 := Below.via hb7 hb710
  have hb510 := Below.via hb6 hb610
  have hb410 := Below.via hb5 hb510
  have hb310 := Below.via hb4 hb410
  have hb210 := Below.via hb3 hb310
  have hC10 := hM9.below hb10
  have hS10 := hMS.below hb410
  have hA10 := Sl.below (ha.sl (z := (0 : Int))) hb310
  have hU10 := Sl.below (hu.sl (z := (0 : Int))) hb310
  have hV10 := Sl.below (hv.sl (z := (0 : Int))) hb310
  have hX10 := Sl.below (hX.sl (z := (0 : Int))) hb510
  have hP10 := Sl.below (hp.sl (z := (0 : Int))) hb610
  have hO10 := Sl.below (hO.sl (z := (0 : Int))) hb710
  have hb010 := Below.via hb2 hb210
  clear hMS hM2 hM3 hM4 hM5 hM6 hM7 hM8 hM9 ha hu hv hX hp hO hP hl hm
  obtain ⟨fal, ful, fvl, fxl, fpl, fol, fab, fub, f1, f2, f3, f4, f5, f6, f7, f8, f9, f10⟩ := hF
  clear hR
  have hss : (slackS c).length = c.length := by simp [slackS]
  generalize slackS c = S at *
  generalize firstS c c.length 0 = a at *
  generalize fixS S c.length = x at *
  generalize paysS c a c.length = p at *
  obtain ⟨Av, ca, rfl⟩ := Sl.shape hA10
  obtain ⟨Uv, cu, rfl⟩ := Sl.shape hU10
  obtain ⟨Vv, cv2, rfl⟩ := Sl.shape hV10
  obtain ⟨Xv, cx, rfl⟩ := Sl.shape hX10
  obtain ⟨Pv, cp, rfl⟩ := Sl.shape hP10
  obtain ⟨Ov, co, rfl⟩ := Sl.shape hO10
  obtain ⟨As, cs, rfl⟩ := hS10.sl
  (repeat (first | with_reducible refine Ops.nil ?_ | refine z_p (kk := ?_) | refine z_y (kk := ?_) | refine z_l (kk := ?_) | refine z_h (kk := ?_)))
  refine W.condF rfl (by first | rfl | assumption | (simp only [bnf] <;> omega) | (simp only [*, bnf]; done) | fail) ?_
  (repeat (first | with_reducible refine W.seq ?_ | with_reducible refine Ops.nil ?_ | with_reducible refine W.region ?_ | refine z_p (kk := ?_) | with_reducible refine W.skip ?_ | with_reducible refine W.block ?_))
  refine W.loop (fun m ρ w11 => ∃ (i : Nat), m = c.length - i ∧ i ≤ c.length ∧ ρ = [(0, .int .i64 ((n0 + 1 : Nat) : Int)), (7, .slice Ac c.length cc), (8, .slice Av a.length ca), (9, .slice Uv u.length cu), (10, .slice Vv v.length cv2), (12, .slice As S.length cs), (14, .slice Xv x.length cx), (16, .slice Pv p.length cp), (18, .slice Ov o.length co), (19, .int .i64 (minT c)), (21, .int .i64 (totP c o c.length)), (23, .int .i64 i)] ∧ Below w10.heap.size w10 w11)
    ⟨_, _, ⟨0, rfl, Nat.zero_le _, rfl, Below.refl _ _⟩, (by repeat (first | exact trivial | refine And.intro rfl ?_))⟩ ?_
  rintro m ρ w11 ⟨i, rfl, hi, rfl, hb11⟩
  (repeat (first | with_reducible refine W.seq ?_ | with_reducible refine Ops.nil ?_ | with_reducible refine W.region ?_ | refine z_p (kk := ?_)))
  (first | refine W.condD rfl (fun hc => ?_) (fun hc => ?_) | refine W.condE rfl (fun hc => ?_) (fun hc => ?_) | refine W.condN rfl (fun hc => ?_) (fun hc => ?_) | refine W.cond rfl (fun hc => ?_) (fun hc => ?_))
  · have hil : i < c.length := by omega
    have hrS : row S (i : Int) = S.getD i [] := by simp [row]
    have hrc : row c (i : Int) = c.getD i [] := by simp [row]
    have g1 := f1 i hil
    have g2 := f2 i hil
    have g3 := f3 i hil
    have g5 := f5 i hil
    have g6 := f6 i
    have g7 := f7 i
    have g8 := f8 i
    have g9 := f9 i
    have gl := hC.len i hil
    have gab := fab i hil
    have gub := (fub i hil).1
    have gvb := (fub (a.getD i 0).toNat (by omega)).2
    have gcb := fun j => hC.bd i j hil
    have g10 := f10 i hil
    rw [← hrS] at g1 g3 g10
    rw [← hrc] at g5 gl
    simp only [← hrS, ← hrc] at g6 g7 g8 g9 gcb
    (repeat (first | with_reducible refine W.seq ?_ | with_reducible refine W.skip ?_ | with_reducible refine W.block ?_))
    refine W.cut (fun ρ w12 => ρ = [(0, .int .i64 ((n0 + 1 : Nat) : Int)), (7, .slice Ac c.length cc), (8, .slice Av a.length ca), (9, .slice Uv u.length cu), (10, .slice Vv v.length cv2), (12, .slice As S.length cs), (14, .slice Xv x.length cx), (16, .slice Pv p.length cp), (18, .slice Ov o.length co), (19, .int .i64 (minT c)), (21, .int .i64 (totP c o c.length)), (23, .int .i64 i), (196, .bool false)] ∧ Below w10.heap.size w10 w12) ?_ ?_
    · as_aux_lemma =>
        refine W.ordA 99 [(0, 1), (1, 1), (2, 1), (3, 2), (4, 1), (5, 1), (6, 1), (7, 1), (8, 1), (9, 1), (10, 1), (11, 2), (12, 1), (13, 1), (14, 1), (15, 1), (16, 1), (17, 1), (18, 2), (19, 1), (20, 1), (21, 1), (22, 2), (23, 1), (24, 2), (25, 1), (26, 1), (27, 1), (28, 1), (29, 1), (30, 1), (31, 2), (32, 1), (33, 1), (34, 1), (35, 1), (36, 1), (37, 2), (38, 1), (39, 1), (40, 1), (41, 2), (42, 1), (43, 1), (44, 1), (45, 1), (46, 1), (47, 1), (48, 1), (49, 2), (50, 1), (51, 1), (52, 1), (53, 1), (54, 2), (55, 1), (56, 2), (57, 1), (58, 1), (59, 1), (60, 1), (61, 2), (62, 1), (63, 1), (64, 1), (65, 2), (66, 1), (67, 2), (68, 1), (69, 1)] rfl (by kernel_rfl) rfl (by kernel_rfl) (fun _ _ _ h => h) ?_
        rcases f4 i hil with g4 | g4
        · (repeat (first | refine x_p (kk := ?_) | refine x_n (kk := ?_) | refine x_a (kk := ?_) | refine x_l (kk := ?_) | refine x_I (kk := fun _ => ?_) | refine x_K (kk := fun _ => ?_) | refine x_r (kk := fun _ _ _ _ => ?_) | refine x_f (kk := ?_)))
          refine OrdA.nil (fun w12 hb12 => ?_)
          exact W.endl ⟨_, ⟨rfl, Below.via hb11 hb12⟩, (by repeat (first | exact trivial | refine And.intro rfl ?_ | refine And.intro (look_b rfl (by first | rfl | assumption | (simp only [bnf] <;> omega) | (simp only [*, bnf]; done) | fail)) ?_))⟩
        · have g4' : ¬ x.getD i 0 = -1 := by omega
          (repeat (first | refine x_p (kk := ?_) | refine x_a (kk := ?_) | refine x_l (kk := ?_) | refine x_I (kk := fun _ => ?_) | refine x_K (kk := fun _ => ?_) | refine x_r (kk := fun _ _ _ _ => ?_) | refine x_t (kk := ?_) | refine x_f (kk := ?_)))
          refine OrdA.nil (fun w12 hb12 => ?_)
          exact W.endl ⟨_, ⟨rfl, Below.via hb11 hb12⟩, (by repeat (first | exact trivial | refine And.intro rfl ?_ | refine And.intro (look_b rfl (by first | rfl | assumption | (simp only [bnf] <;> omega) | (simp only [*, bnf]; done) | fail)) ?_))⟩
    · clear hb11
      rintro ρ w12 ⟨rfl, hb12⟩
      skip
      refine W.condF rfl (by first | rfl | assumption | (simp only [bnf] <;> omega) | (simp only [*, bnf]; done) | fail) ?_
      (repeat (first | with_reducible refine W.seq ?_ | with_reducible refine Ops.nil ?_ | with_reducible refine W.region ?_ | refine z_p (kk := ?_) | with_reducible refine W.skip ?_ | with_reducible refine W.block ?_))
      refine W.loop (fun m ρ w13 => ∃ (j : Nat), m = c.length - j ∧ j ≤ c.length ∧ ρ = [(0, .int .i64 ((n0 + 1 : Nat) : Int)), (7, .slice Ac c.length cc), (8, .slice Av a.length ca), (9, .slice Uv u.length cu), (10, .slice Vv v.length cv2), (12, .slice As S.length cs), (14, .slice Xv x.length cx), (16, .slice Pv p.length cp), (18, .slice Ov o.length co), (19, .int .i64 (minT c)), (21, .int .i64 (totP c o c.length)), (23, .int .i64 i), (24, .int .i64 (ct (zer (row S i)) j : Nat)), (25, .int .i64 j)] ∧ Below w10.heap.size w10 w13)
        ⟨_, _, ⟨0, rfl, Nat.zero_le _, rfl, hb12⟩, (by repeat (first | exact trivial | refine And.intro rfl ?_))⟩ ?_
      clear hb12
      rintro m ρ w13 ⟨j, rfl, hj, rfl, hb13⟩
      have hcj := ct_le (zer (row S i)) j
      (repeat (first | with_reducible refine W.seq ?_ | with_reducible refine Ops.nil ?_ | with_reducible refine W.region ?_ | refine z_p (kk := ?_)))
      (first | refine W.condD rfl (fun hc => ?_) (fun hc => ?_) | refine W.condE rfl (fun hc => ?_) (fun hc => ?_) | refine W.condN rfl (fun hc => ?_) (fun hc => ?_) | refine W.cond rfl (fun hc => ?_) (fun hc => ?_))
      · have hjl : j < c.length := by omega
        have k6 := g6 j hil hjl
        have k7 := g7 j hil hjl
        have k8 := g8 j hil hjl
        have k9 := g9 j hil hjl
        have kub := (fub i hil).1
        have kvb := (fub j hjl).2
        have kcb := gcb j hjl
        have hcs : ct (zer (row S i)) (j + 1) = ct (zer (row S i)) j + if zer (row S i) j = true then 1 else 0 := rfl
        (repeat (first | with_reducible refine W.seq ?_ | with_reducible refine Ops.nil ?_ | with_reducible refine W.region ?_ | refine z_p (kk := ?_) | with_reducible refine W.skip ?_ | with_reducible refine W.block ?_ | refine z_I (kk := fun _ => ?_) | refine z_r (kk := fun _ _ _ _ => ?_)))
        refine W.cut (fun ρ w14 => ρ = [(0, .int .i64 ((n0 + 1 : Nat) : Int)), (7, .slice Ac c.length cc), (8, .slice Av a.length ca), (9, .slice Uv u.length cu), (10, .slice Vv v.length cv2), (12, .slice As S.length cs), (14, .slice Xv x.length cx), (16, .slice Pv p.length cp), (18, .slice Ov o.length co), (19, .int .i64 (minT c)), (21, .int .i64 (totP c o c.length)), (23, .int .i64 i), (24, .int .i64 (ct (zer (row S i)) (j + 1) : Nat)), (25, .int .i64 j)] ∧ Below w10.heap.size w10 w14) ?_ ?_
        · by_cases hz : (row S (i : Int)).getD j 0 = 0
          · have k6' := k6 hz
            rw [show zer (row S i) j = true from decide_eq_true hz, if_pos rfl] at hcs
            refine W.condT rfl (by first | rfl | assumption | (simp only [bnf] <;> omega) | (simp only [*, bnf]; done) | fail) ?_
            (repeat (first | with_reducible refine W.seq ?_ | with_reducible refine Ops.nil ?_ | with_reducible refine W.region ?_ | refine z_p (kk := ?_) | refine z_a (kk := ?_)))
            refine W.ordA 99 [(0, 1), (1, 1), (2, 1), (3, 2), (4, 1), (5, 1), (6, 1), (7, 2), (8, 1), (9, 1), (10, 1), (11, 1), (12, 2), (13, 1), (14, 1), (15, 2), (16, 1)] rfl (by kernel_rfl) rfl (by kernel_rfl) (fun _ _ _ h => h) ?_
            (repeat (first | refine x_p (kk := ?_) | refine x_a (kk := ?_) | refine x_I (kk := fun _ => ?_) | refine x_r (kk := fun _ _ _ _ => ?_)))
            refine OrdA.nil (fun w14 hb14 => ?_)
            skip
            refine W.condF rfl (by first | rfl | assumption | (simp only [bnf] <;> omega) | (simp only [*, bnf]; done) | fail) ?_
            (repeat (first | with_reducible refine W.skip ?_))
            refine W.endl ⟨_, ⟨rfl, Below.via hb13 hb14⟩, ?_⟩
            rw [hcs]
            exact (by repeat (first | exact trivial | refine And.intro rfl ?_))
          · rw [show zer (row S i) j = false from decide_eq_false hz, if_neg (by simp)] at hcs
            refine W.condF rfl (by first | rfl | assumption | (simp only [bnf] <;> omega) | (simp only [*, bnf]; done) | fail) ?_
            (repeat (first | with_reducible refine W.skip ?_))
            refine W.endl ⟨_, ⟨rfl, hb13⟩, ?_⟩
            rw [hcs]
            exact (by repeat (first | exact trivial | refine And.intro rfl ?_))
        · clear hb13
          rintro ρ w14 ⟨rfl, hb14⟩
          (repeat (first | with_reducible refine W.seq ?_))
          refine W.cut (fun ρ w15 => ρ = [(0, .int .i64 ((n0 + 1 : Nat) : Int)), (7, .slice Ac c.length cc), (8, .slice Av a.length ca), (9, .slice Uv u.length cu), (10, .slice Vv v.length cv2), (12, .slice As S.length cs), (14, .slice Xv x.length cx), (16, .slice Pv p.length cp), (18, .slice Ov o.length co), (19, .int .i64 (minT c)), (21, .int .i64 (totP c o c.length)), (23, .int .i64 i), (24, .int .i64 (ct (zer (row S i)) (j + 1) : Nat)), (25, .int .i64 j), (284, .bool false)] ∧ Below w10.heap.size w10 w15) ?_ ?_
          · as_aux_lemma =>
              refine W.ordA 99 [(0, 1), (1, 1), (2, 1), (3, 2), (4, 1), (5, 1), (6, 2), (7, 1), (8, 1), (9, 1), (10, 1), (11, 1), (12, 2), (13, 1), (14, 1), (15, 2), (16, 1), (17, 1), (18, 1), (19, 2), (20, 1), (21, 1), (22, 2), (23, 1), (24, 1), (25, 1), (26, 2), (27, 1), (28, 1), (29, 1), (30, 1), (31, 2), (32, 1), (33, 1), (34, 1), (35, 1), (36, 1), (37, 1), (38, 1), (39, 2), (40, 1), (41, 1), (42, 1), (43, 1), (44, 1), (45, 1), (46, 2), (47, 1), (48, 1), (49, 2), (50, 1), (51, 1), (52, 1), (53, 1), (54, 1), (55, 1)] rfl (by kernel_rfl) rfl (by kernel_rfl) (fun _ _ _ h => h) ?_
              by_cases ho : o.getD i 0 = (j : Int)
              · have k9' := k9 ho
                (repeat (first | refine x_p (kk := ?_) | refine x_a (kk := ?_) | refine x_I (kk := fun _ => ?_) | refine x_r (kk := fun _ _ _ _ => ?_) | refine x_t (kk := ?_) | refine x_f (kk := ?_)))
                refine OrdA.nil (fun w15 hb15 => ?_)
                exact W.endl ⟨_, ⟨rfl, Below.via hb14 hb15⟩, (by repeat (first | exact trivial | refine And.intro rfl ?_ | refine And.intro (look_b rfl (by first | rfl | assumption | (simp only [bnf] <;> omega) | (simp only [*, bnf]; done) | fail)) ?_))⟩
              · (repeat (first | refine x_p (kk := ?_) | refine x_n (kk := ?_) | refine x_a (kk := ?_) | refine x_I (kk := fun _ => ?_) | refine x_r (kk := fun _ _ _ _ => ?_) | refine x_f (kk := ?_)))
                refine OrdA.nil (fun w15 hb15 => ?_)
                exact W.endl ⟨_, ⟨rfl, Below.via hb14 hb15⟩, (by repeat (first | exact trivial | refine And.intro rfl ?_ | refine And.intro (look_b rfl (by first | rfl | assumption | (simp only [bnf] <;> omega) | (simp only [*, bnf]; done) | fail)) ?_))⟩
          · clear hb14
            rintro ρ w15 ⟨rfl, hb15⟩
            skip
            refine W.condF rfl (by first | rfl | assumption | (simp only [bnf] <;> omega) | (simp only [*, bnf]; done) | fail) ?_
            (repeat (first | with_reducible refine Ops.nil ?_ | with_reducible refine W.region ?_ | refine z_p (kk := ?_) | refine z_a (kk := ?_) | with_reducible refine W.skip ?_ | with_reducible refine W.endb ?_))
            exact W.endl ⟨_, _, ⟨⟨j + 1, rfl, by omega, rfl, hb15⟩, by omega⟩, (by repeat (first | exact trivial | refine And.intro rfl ?_))⟩
      · have hjl : j = c.length := by omega
        subst hjl
        (repeat (first | with_reducible refine W.seq ?_ | with_reducible refine Ops.nil ?_ | with_reducible refine W.region ?_ | refine z_p (kk := ?_) | refine W.exit rfl ?_ | refine z_E (kk := ?_) | refine z_I (kk := fun _ => ?_)))
        refine W.condF rfl ?_ ?_
        · by_cases hx1 : x.getD i 0 = -1
          · have := g10.2 hx1
            rw [hx1, decide_eq_true (show (ct (zer (row S i)) c.length : Int) > 1 by omega)]
            rfl
          · have : ¬ 1 < ct (zer (row S i)) c.length := fun h => hx1 (g10.1 h)
            rw [decide_eq_false (show ¬ (ct (zer (row S i)) c.length : Int) > 1 by omega), show (x.getD i 0 == -1) = false by simpa using hx1]
            rfl
        · (repeat (first | with_reducible refine Ops.nil ?_ | with_reducible refine W.region ?_ | refine z_p (kk := ?_) | refine z_a (kk := ?_) | with_reducible refine W.skip ?_ | with_reducible refine W.endb ?_))
          exact W.endl ⟨_, _, ⟨⟨i + 1, rfl, by omega, rfl, hb13⟩, by omega⟩, (by repeat (first | exact trivial | refine And.intro rfl ?_))⟩
  · have hil : i = c.length := by omega
    (repeat (first | with_reducible refine W.seq ?_ | with_reducible refine W.region ?_ | refine W.exit rfl ?_))
    refine Ops.call rfl rfl rfl rfl rfl (awake_c _) (fun r w12 hR => ?_)
    obtain ⟨rfl, hb12⟩ := hR
    (repeat (first | with_reducible refine Ops.nil ?_ | refine z_p (kk := ?_)))
    exact W.fret rfl ⟨rfl, Below.via hb010 (Below.via hb11 hb12)⟩
end Go.Proofs.Ytehjmakiljhjdaa
