/- A part of the walk: what this seat's statements share. -/
import Derived.Test.YtehjmakiljhjdaaZG10
import Derived.Test.YtehjmakiljhjdaaZG8
import Derived.Test.YtehjmakiljhjdaaZG9
import Derived.Test.YtehjmakiljhjdaaZG6
set_option linter.unusedVariables false
set_option linter.unusedSimpArgs false
set_option linter.unusedSectionVars false
namespace Go.Proofs.Ytehjmakiljhjdaa
open Go Go.RowKit Go.Proofs.Ytehjmakiljhjdaa.VW
attribute [local irreducible] W Ops OrdA VW.Ord OrdX
set_option maxHeartbeats 8000000 in
set_option maxRecDepth 20000 in
theorem provedLaw_c {w : World} {mv lv : Value} {n : Int} {l : List (List Int)} {by_ : List Int} (hm : ArgR w mv l) (hl : Arg w lv by_) :
    Calls Try.prog 6 #[.int .i64 n, mv, lv] w (Ret fun r w' => r = .bool true ∧ Below w.heap.size w w') := by
  refine calls_W (vs := [_, _, _]) Try.func6 rfl (by kernel_rfl) rfl ?_
  (repeat (first | with_reducible refine W.seq ?_ | with_reducible refine Ops.nil ?_ | with_reducible refine W.region ?_ | refine z_p (kk := ?_)))
  refine Ops.callS rfl rfl rfl rfl rfl (mod_c _ _ _ (by omega) (by omega)) ?_
  have hmb := modI_bd n (n := 7) (by omega)
  obtain ⟨n0, hn0⟩ := Int.eq_ofNat_of_zero_le hmb.1
  rw [hn0] at hmb ⊢
  (repeat (first | with_reducible refine W.seq ?_ | with_reducible refine Ops.nil ?_ | with_reducible refine W.region ?_ | refine z_p (kk := ?_) | refine z_a (kk := ?_)))
  rw [show (1 : Int) + ((n0 : Nat) : Int) = ((n0 + 1 : Nat) : Int) by omega]
  refine Ops.call rfl rfl rfl rfl rfl (tame_c hm.1 (n := n0 + 1) (by omega) (by omega) (by omega)) (fun tv w2 hR => ?_)
  obtain ⟨cvs, hR⟩ := hR
  have hb2 := hR.o.bel
  have hM2 := hR.rowsM
  change RowsM w2 tv (tmC l (n0 + 1) 1000) at hM2
  have hC := tmC_cst l (n := n0 + 1) (most := 1000) (by omega) (by omega) (by omega) (by omega)
  have hcl := tmC_len l (n0 + 1) 1000
  generalize tmC l (n0 + 1) 1000 = c at *
  clear hR
  have hcB : costsB c = true := costs_iff.2 hC
  obtain ⟨Ac, cc, rfl⟩ := hM2.sl
  (repeat (first | with_reducible refine W.seq ?_ | with_reducible refine Ops.nil ?_ | with_reducible refine W.region ?_ | refine z_p (kk := ?_)))
  refine Ops.call rfl rfl rfl rfl rfl (Best_c hM2) (fun r w3 hR => ?_)
  obtain ⟨hb3, -, hR⟩ := hR
  obtain ⟨av, uv, vv, u, v, rfl, ha, hu, hv, hP⟩ := hR hcB
  have hM3 := hM2.below hb3
  (repeat (first | with_reducible refine W.seq ?_ | with_reducible refine Ops.nil ?_ | with_reducible refine W.region ?_ | refine z_p (kk := ?_)))
  refine Ops.call rfl rfl rfl rfl rfl (Slack_c hM3) (fun r w4 hR => ?_)
  obtain ⟨sv, scv, rfl, hS⟩ := hR.2 hcB
  have hb4 := hS.o.bel
  have hMS : RowsM w4 sv (slackS c) := hS.rowsM
  clear hS
  have hM4 := hM3.below hb4
  (repeat (first | with_reducible refine W.seq ?_ | with_reducible refine Ops.nil ?_ | with_reducible refine W.region ?_ | refine z_p (kk := ?_)))
  refine Ops.call rfl rfl rfl rfl rfl (Fixed_c hM4) (fun r w5 hR => ?_)
  obtain ⟨hb5, -, hR⟩ := hR
  obtain ⟨xv, rfl, hX⟩ := hR hcB
  have hM5 := hM4.below hb5
  (repeat (first | with_reducible refine W.seq ?_ | with_reducible refine Ops.nil ?_ | with_reducible refine W.region ?_ | refine z_p (kk := ?_)))
  refine Ops.call rfl rfl rfl rfl rfl (pays_c hM5) (fun r w6 hR => ?_)
  obtain ⟨pv, rfl, hp⟩ := hR.2 hcB
  have hb6 := hp.bel
  have hM6 := hM5.below hb6
  have hb36 := Below.via hb4 (Below.via hb5 hb6)
  have hb26 := Below.via hb3 hb36
  (repeat (first | with_reducible refine W.seq ?_ | with_reducible refine Ops.nil ?_ | with_reducible refine W.region ?_ | refine z_p (kk := ?_)))
  refine Ops.call rfl rfl rfl rfl rfl (order_c (Sl.below hl.1 (Below.via hb2 hb26)) (n := n0 + 1) (by omega)) (fun ov w7 hO => ?_)
  have hb7 := hO.bel
  have hAo := ordL_asg by_ (n0 + 1)
  generalize ordL by_ (n0 + 1) = o at *
  rw [← hcl] at hAo
  have hM7 := hM6.below hb7
  have hb37 := Below.via hb36 hb7
  (repeat (first | with_reducible refine W.seq ?_ | with_reducible refine Ops.nil ?_ | with_reducible refine W.region ?_ | refine z_p (kk := ?_)))
  refine Ops.call rfl rfl rfl rfl rfl (Total_c hM7 (oi_arg (ha.below hb37))) (fun r w8 hR => ?_)
  obtain ⟨rfl, hb8⟩ := hR
  rw [if_pos ⟨hcB, firstS_Asg⟩, first_tot]
  have hM8 := hM7.below hb8
  have hb78 := hb8
  (repeat (first | with_reducible refine W.seq ?_ | with_reducible refine Ops.nil ?_ | with_reducible refine W.region ?_ | refine z_p (kk := ?_)))
  refine Ops.call rfl rfl rfl rfl rfl (Total_c hM8 (oi_arg (hO.below hb8))) (fun r w9 hR => ?_)
  obtain ⟨rfl, hb9⟩ := hR
  rw [if_pos ⟨hcB, hAo⟩]
  have hM9 := hM8.below hb9
  have hb79 := Below.via hb8 hb9
  have hb39 := Below.via hb37 hb79
  have hmin := min_le hAo
  have htb := totB hC hAo
  have hmB := minB hC
  have hF := pf hC hP hAo
  (repeat (first | with_reducible refine W.seq ?_ | with_reducible refine Ops.nil ?_ | with_reducible refine W.region ?_ | refine z_p (kk := ?_) | refine z_y (kk := ?_) | refine z_h (kk := ?_)))
  refine Ops.call rfl rfl rfl rfl rfl (proves_c hM9 hC (Sl.below ha.sl hb39) (Sl.below hu.sl hb39) (Sl.below hv.sl hb39)) (fun r w10 hR => ?_)
  obtain ⟨rfl, hb10⟩ := hR
  rw [decide_eq_true hP]
  have hb710 := Below.via hb79 hb10
  have hb610 := Below.via hb7 hb710
  have hb510 := Below.via hb6 hb610
  have hb410 := Below.via hb5 hb510
  have hb310 := Below.via hb4 hb410
  have hb210 := Below.via hb3 hb310
  have hC10 := hM9.below hb10
  have hS10 := hMS.below hb410
  have hA10 := Sl.below (ha.sl (z := (0 : Int))) hb310
  have hU10 := Sl.below (hu.sl (z := (0 : Int))) hb310
  have hV10 := Sl.below (hv.sl (z := (0 : Int))) hb310
  have hX10 := Sl.below (hX.sl (z := (0 : Int))) hb510
  have hP10 := Sl.below (hp.sl (z := (0 : Int))) hb610
  have hO10 := Sl.below (hO.sl (z := (0 : Int))) hb710
  have hb010 := Below.via hb2 hb210
  clear hMS hM2 hM3 hM4 hM5 hM6 hM7 hM8 hM9 ha hu hv hX hp hO hP hl hm
  obtain ⟨fal, ful, fvl, fxl, fpl, fol, fab, fub, f1, f2, f3, f4, f5, f6, f7, f8, f9, f10⟩ := hF
  clear hR
  have hss : (slackS c).length = c.length := by simp [slackS]
  generalize slackS c = S at *
  generalize firstS c c.length 0 = a at *
  generalize fixS S c.length = x at *
  generalize paysS c a c.length = p at *
  obtain ⟨Av, ca, rfl⟩ := Sl.shape hA10
  obtain ⟨Uv, cu, rfl⟩ := Sl.shape hU10
  obtain ⟨Vv, cv2, rfl⟩ := Sl.shape hV10
  obtain ⟨Xv, cx, rfl⟩ := Sl.shape hX10
  obtain ⟨Pv, cp, rfl⟩ := Sl.shape hP10
  obtain ⟨Ov, co, rfl⟩ := Sl.shape hO10
  obtain ⟨As, cs, rfl⟩ := hS10.sl
  (repeat (first | with_reducible refine Ops.nil ?_ | refine z_p (kk := ?_) | refine z_y (kk := ?_) | refine z_l (kk := ?_) | refine z_h (kk := ?_)))
  refine W.condF rfl (by first | rfl | assumption | (simp only [bnf] <;> omega) | (simp only [*, bnf]; done) | fail) ?_
  (repeat (first | with_reducible refine W.seq ?_ | with_reducible refine Ops.nil ?_ | with_reducible refine W.region ?_ | refine z_p (kk := ?_) | with_reducible refine W.skip ?_ | with_reducible refine W.block ?_))
  refine W.loop (fun m ρ w11 => ∃ (i : Nat), m = c.length - i ∧ i ≤ c.length ∧ ρ = [(0, .int .i64 ((n0 + 1 : Nat) : Int)), (7, .slice Ac c.length cc), (8, .slice Av a.length ca), (9, .slice Uv u.length cu), (10, .slice Vv v.length cv2), (12, .slice As S.length cs), (14, .slice Xv x.length cx), (16, .slice Pv p.length cp), (18, .slice Ov o.length co), (19, .int .i64 (minT c)), (21, .int .i64 (totP c o c.length)), (23, .int .i64 i)] ∧ Below w10.heap.size w10 w11)
    ⟨_, _, ⟨0, rfl, Nat.zero_le _, rfl, Below.refl _ _⟩, (by repeat (first | exact trivial | refine And.intro rfl ?_))⟩ ?_
  rintro m ρ w11 ⟨i, rfl, hi, rfl, hb11⟩
  (repeat (first | with_reducible refine W.seq ?_ | with_reducible refine Ops.nil ?_ | with_reducible refine W.region ?_ | refine z_p (kk := ?_)))
  (first | refine W.condD rfl (fun hc => ?_) (fun hc => ?_) | refine W.condE rfl (fun hc => ?_) (fun hc => ?_) | refine W.condN rfl (fun hc => ?_) (fun hc => ?_) | refine W.cond rfl (fun hc => ?_) (fun hc => ?_))
  · have hil : i < c.length := by omega
    have hrS : row S (i : Int) = S.getD i [] := by simp [row]
    have hrc : row c (i : Int) = c.getD i [] := by simp [row]
    have g1 := f1 i hil
    have g2 := f2 i hil
    have g3 := f3 i hil
    have g5 := f5 i hil
    have g6 := f6 i
    have g7 := f7 i
    have g8 := f8 i
    have g9 := f9 i
    have gl := hC.len i hil
    have gab := fab i hil
    have gub := (fub i hil).1
    have gvb := (fub (a.getD i 0).toNat (by omega)).2
    have gcb := fun j => hC.bd i j hil
    have g10 := f10 i hil
    rw [← hrS] at g1 g3 g10
    rw [← hrc] at g5 gl
    simp only [← hrS, ← hrc] at g6 g7 g8 g9 gcb
    (repeat (first | with_reducible refine W.seq ?_ | with_reducible refine W.skip ?_ | with_reducible refine W.block ?_))
    refine W.cut (fun ρ w12 => ρ = [(0, .int .i64 ((n0 + 1 : Nat) : Int)), (7, .slice Ac c.length cc), (8, .slice Av a.length ca), (9, .slice Uv u.length cu), (10, .slice Vv v.length cv2), (12, .slice As S.length cs), (14, .slice Xv x.length cx), (16, .slice Pv p.length cp), (18, .slice Ov o.length co), (19, .int .i64 (minT c)), (21, .int .i64 (totP c o c.length)), (23, .int .i64 i), (196, .bool false)] ∧ Below w10.heap.size w10 w12) ?_ ?_
    · as_aux_lemma =>
        refine W.ordA 99 [(0, 1), (1, 1), (2, 1), (3, 2), (4, 1), (5, 1), (6, 1), (7, 1), (8, 1), (9, 1), (10, 1), (11, 2), (12, 1), (13, 1), (14, 1), (15, 1), (16, 1), (17, 1), (18, 2), (19, 1), (20, 1), (21, 1), (22, 2), (23, 1), (24, 2), (25, 1), (26, 1), (27, 1), (28, 1), (29, 1), (30, 1), (31, 2), (32, 1), (33, 1), (34, 1), (35, 1), (36, 1), (37, 2), (38, 1), (39, 1), (40, 1), (41, 2), (42, 1), (43, 1), (44, 1), (45, 1), (46, 1), (47, 1), (48, 1), (49, 2), (50, 1), (51, 1), (52, 1), (53, 1), (54, 2), (55, 1), (56, 2), (57, 1), (58, 1), (59, 1), (60, 1), (61, 2), (62, 1), (63, 1), (64, 1), (65, 2), (66, 1), (67, 2), (68, 1), (69, 1)] rfl (by kernel_rfl) rfl (by kernel_rfl) (fun _ _ _ h => h) ?_
        rcases f4 i hil with g4 | g4
        · (repeat (first | refine x_p (kk := ?_) | refine x_n (kk := ?_) | refine x_a (kk := ?_) | refine x_l (kk := ?_) | refine x_I (kk := fun _ => ?_) | refine x_K (kk := fun _ => ?_) | refine x_r (kk := fun _ _ _ _ => ?_) | refine x_f (kk := ?_)))
          refine OrdA.nil (fun w12 hb12 => ?_)
          exact W.endl ⟨_, ⟨rfl, Below.via hb11 hb12⟩, (by repeat (first | exact trivial | refine And.intro rfl ?_ | refine And.intro (look_b rfl (by first | rfl | assumption | (simp only [bnf] <;> omega) | (simp only [*, bnf]; done) | fail)) ?_))⟩
        · have g4' : ¬ x.getD i 0 = -1 := by omega
          (repeat (first | refine x_p (kk := ?_) | refine x_a (kk := ?_) | refine x_l (kk := ?_) | refine x_I (kk := fun _ => ?_) | refine x_K (kk := fun _ => ?_) | refine x_r (kk := fun _ _ _ _ => ?_) | refine x_t (kk := ?_) | refine x_f (kk := ?_)))
          refine OrdA.nil (fun w12 hb12 => ?_)
          exact W.endl ⟨_, ⟨rfl, Below.via hb11 hb12⟩, (by repeat (first | exact trivial | refine And.intro rfl ?_ | refine And.intro (look_b rfl (by first | rfl | assumption | (simp only [bnf] <;> omega) | (simp only [*, bnf]; done) | fail)) ?_))⟩
    · clear hb11
      rintro ρ w12 ⟨rfl, hb12⟩
      skip
      refine W.condF rfl (by first | rfl | assumption | (simp only [bnf] <;> omega) | (simp only [*, bnf]; done) | fail) ?_
      (repeat (first | with_reducible refine W.seq ?_ | with_reducible refine Ops.nil ?_ | with_reducible refine W.region ?_ | refine z_p (kk := ?_) | with_reducible refine W.skip ?_ | with_reducible refine W.block ?_))
      refine W.loop (fun m ρ w13 => ∃ (j : Nat), m = c.length - j ∧ j ≤ c.length ∧ ρ = [(0, .int .i64 ((n0 + 1 : Nat) : Int)), (7, .slice Ac c.length cc), (8, .slice Av a.length ca), (9, .slice Uv u.length cu), (10, .slice Vv v.length cv2), (12, .slice As S.length cs), (14, .slice Xv x.length cx), (16, .slice Pv p.length cp), (18, .slice Ov o.length co), (19, .int .i64 (minT c)), (21, .int .i64 (totP c o c.length)), (23, .int .i64 i), (24, .int .i64 (ct (zer (row S i)) j : Nat)), (25, .int .i64 j)] ∧ Below w10.heap.size w10 w13)
        ⟨_, _, ⟨0, rfl, Nat.zero_le _, rfl, hb12⟩, (by repeat (first | exact trivial | refine And.intro rfl ?_))⟩ ?_
      clear hb12
      rintro m ρ w13 ⟨j, rfl, hj, rfl, hb13⟩
      have hcj := ct_le (zer (row S i)) j
      (repeat (first | with_reducible refine W.seq ?_ | with_reducible refine Ops.nil ?_ | with_reducible refine W.region ?_ | refine z_p (kk := ?_)))
      (first | refine W.condD rfl (fun hc => ?_) (fun hc => ?_) | refine W.condE rfl (fun hc => ?_) (fun hc => ?_) | refine W.condN rfl (fun hc => ?_) (fun hc => ?_) | refine W.cond rfl (fun hc => ?_) (fun hc => ?_))
      · have hjl : j < c.length := by omega
        have k6 := g6 j hil hjl
        have k7 := g7 j hil hjl
        have k8 := g8 j hil hjl
        have k9 := g9 j hil hjl
        have kub := (fub i hil).1
        have kvb := (fub j hjl).2
        have kcb := gcb j hjl
        have hcs : ct (zer (row S i)) (j + 1) = ct (zer (row S i)) j + if zer (row S i) j = true then 1 else 0 := rfl
        (repeat (first | with_reducible refine W.seq ?_ | with_reducible refine Ops.nil ?_ | with_reducible refine W.region ?_ | refine z_p (kk := ?_) | with_reducible refine W.skip ?_ | with_reducible refine W.block ?_ | refine z_I (kk := fun _ => ?_) | refine z_r (kk := fun _ _ _ _ => ?_)))
        refine W.cut (fun ρ w14 => ρ = [(0, .int .i64 ((n0 + 1 : Nat) : Int)), (7, .slice Ac c.length cc), (8, .slice Av a.length ca), (9, .slice Uv u.length cu), (10, .slice Vv v.length cv2), (12, .slice As S.length cs), (14, .slice Xv x.length cx), (16, .slice Pv p.length cp), (18, .slice Ov o.length co), (19, .int .i64 (minT c)), (21, .int .i64 (totP c o c.length)), (23, .int .i64 i), (24, .int .i64 (ct (zer (row S i)) (j + 1) : Nat)), (25, .int .i64 j)] ∧ Below w10.heap.size w10 w14) ?_ ?_
        · by_cases hz : (row S (i : Int)).getD j 0 = 0
          · have k6' := k6 hz
            rw [show zer (row S i) j = true from decide_eq_true hz, if_pos rfl] at hcs
            refine W.condT rfl (by first | rfl | assumption | (simp only [bnf] <;> omega) | (simp only [*, bnf]; done) | fail) ?_
            (repeat (first | with_reducible refine W.seq ?_ | with_reducible refine Ops.nil ?_ | with_reducible refine W.region ?_ | refine z_p (kk := ?_) | refine z_a (kk := ?_)))
            refine W.ordA 99 [(0, 1), (1, 1), (2, 1), (3, 2), (4, 1), (5, 1), (6, 1), (7, 2), (8, 1), (9, 1), (10, 1), (11, 1), (12, 2), (13, 1), (14, 1), (15, 2), (16, 1)] rfl (by kernel_rfl) rfl (by kernel_rfl) (fun _ _ _ h => h) ?_
            (repeat (first | refine x_p (kk := ?_) | refine x_a (kk := ?_) | refine x_I (kk := fun _ => ?_) | refine x_r (kk := fun _ _ _ _ => ?_)))
            refine OrdA.nil (fun w14 hb14 => ?_)
            skip
            refine W.condF rfl (by first | rfl | assumption | (simp only [bnf] <;> omega) | (simp only [*, bnf]; done) | fail) ?_
            (repeat (first | with_reducible refine W.skip ?_))
            refine W.endl ⟨_, ⟨rfl, Below.via hb13 hb14⟩, ?_⟩
            rw [hcs]
            exact (by repeat (first | exact trivial | refine And.intro rfl ?_))
          · rw [show zer (row S i) j = false from decide_eq_false hz, if_neg (by simp)] at hcs
            refine W.condF rfl (by first | rfl | assumption | (simp only [bnf] <;> omega) | (simp only [*, bnf]; done) | fail) ?_
            (repeat (first | with_reducible refine W.skip ?_))
            refine W.endl ⟨_, ⟨rfl, hb13⟩, ?_⟩
            rw [hcs]
            exact (by repeat (first | exact trivial | refine And.intro rfl ?_))
        · clear hb13
          rintro ρ w14 ⟨rfl, hb14⟩
          (repeat (first | with_reducible refine W.seq ?_))
          refine W.cut (fun ρ w15 => ρ = [(0, .int .i64 ((n0 + 1 : Nat) : Int)), (7, .slice Ac c.length cc), (8, .slice Av a.length ca), (9, .slice Uv u.length cu), (10, .slice Vv v.length cv2), (12, .slice As S.length cs), (14, .slice Xv x.length cx), (16, .slice Pv p.length cp), (18, .slice Ov o.length co), (19, .int .i64 (minT c)), (21, .int .i64 (totP c o c.length)), (23, .int .i64 i), (24, .int .i64 (ct (zer (row S i)) (j + 1) : Nat)), (25, .int .i64 j), (284, .bool false)] ∧ Below w10.heap.size w10 w15) ?_ ?_
          · as_aux_lemma =>
              refine W.ordA 99 [(0, 1), (1, 1), (2, 1), (3, 2), (4, 1), (5, 1), (6, 2), (7, 1), (8, 1), (9, 1), (10, 1), (11, 1), (12, 2), (13, 1), (14, 1), (15, 2), (16, 1), (17, 1), (18, 1), (19, 2), (20, 1), (21, 1), (22, 2), (23, 1), (24, 1), (25, 1), (26, 2), (27, 1), (28, 1), (29, 1), (30, 1), (31, 2), (32, 1), (33, 1), (34, 1), (35, 1), (36, 1), (37, 1), (38, 1), (39, 2), (40, 1), (41, 1), (42, 1), (43, 1), (44, 1), (45, 1), (46, 2), (47, 1), (48, 1), (49, 2), (50, 1), (51, 1), (52, 1), (53, 1), (54, 1), (55, 1)] rfl (by kernel_rfl) rfl (by kernel_rfl) (fun _ _ _ h => h) ?_
              by_cases ho : o.getD i 0 = (j : Int)
              · have k9' := k9 ho
                (repeat (first | refine x_p (kk := ?_) | refine x_a (kk := ?_) | refine x_I (kk := fun _ => ?_) | refine x_r (kk := fun _ _ _ _ => ?_) | refine x_t (kk := ?_) | refine x_f (kk := ?_)))
                refine OrdA.nil (fun w15 hb15 => ?_)
                exact W.endl ⟨_, ⟨rfl, Below.via hb14 hb15⟩, (by repeat (first | exact trivial | refine And.intro rfl ?_ | refine And.intro (look_b rfl (by first | rfl | assumption | (simp only [bnf] <;> omega) | (simp only [*, bnf]; done) | fail)) ?_))⟩
              · (repeat (first | refine x_p (kk := ?_) | refine x_n (kk := ?_) | refine x_a (kk := ?_) | refine x_I (kk := fun _ => ?_) | refine x_r (kk := fun _ _ _ _ => ?_) | refine x_f (kk := ?_)))
                refine OrdA.nil (fun w15 hb15 => ?_)
                exact W.endl ⟨_, ⟨rfl, Below.via hb14 hb15⟩, (by repeat (first | exact trivial | refine And.intro rfl ?_ | refine And.intro (look_b rfl (by first | rfl | assumption | (simp only [bnf] <;> omega) | (simp only [*, bnf]; done) | fail)) ?_))⟩
          · clear hb14
            rintro ρ w15 ⟨rfl, hb15⟩
            skip
            refine W.condF rfl (by first | rfl | assumption | (simp only [bnf] <;> omega) | (simp only [*, bnf]; done) | fail) ?_
            (repeat (first | with_reducible refine Ops.nil ?_ | with_reducible refine W.region ?_ | refine z_p (kk := ?_) | refine z_a (kk := ?_) | with_reducible refine W.skip ?_ | with_reducible refine W.endb ?_))
            exact W.endl ⟨_, _, ⟨⟨j + 1, rfl, by omega, rfl, hb15⟩, by omega⟩, (by repeat (first | exact trivial | refine And.intro rfl ?_))⟩
      · have hjl : j = c.length := by omega
        subst hjl
        (repeat (first | with_reducible refine W.seq ?_ | with_reducible refine Ops.nil ?_ | with_reducible refine W.region ?_ | refine z_p (kk := ?_) | refine W.exit rfl ?_ | refine z_E (kk := ?_) | refine z_I (kk := fun _ => ?_)))
        refine W.condF rfl ?_ ?_
        · by_cases hx1 : x.getD i 0 = -1
          · have := g10.2 hx1
            rw [hx1, decide_eq_true (show (ct (zer (row S i)) c.length : Int) > 1 by omega)]
            rfl
          · have : ¬ 1 < ct (zer (row S i)) c.length := fun h => hx1 (g10.1 h)
            rw [decide_eq_false (show ¬ (ct (zer (row S i)) c.length : Int) > 1 by omega), show (x.getD i 0 == -1) = false by simpa using hx1]
            rfl
        · (repeat (first | with_reducible refine Ops.nil ?_ | with_reducible refine W.region ?_ | refine z_p (kk := ?_) | refine z_a (kk := ?_) | with_reducible refine W.skip ?_ | with_reducible refine W.endb ?_))
          exact W.endl ⟨_, _, ⟨⟨i + 1, rfl, by omega, rfl, hb13⟩, by omega⟩, (by repeat (first | exact trivial | refine And.intro rfl ?_))⟩
  · have hil : i = c.length := by omega
    (repeat (first | with_reducible refine W.seq ?_ | with_reducible refine W.region ?_ | refine W.exit rfl ?_))
    refine Ops.call rfl rfl rfl rfl rfl (awake_c _) (fun r w12 hR => ?_)
    obtain ⟨rfl, hb12⟩ := hR
    (repeat (first | with_reducible refine Ops.nil ?_ | refine z_p (kk := ?_)))
    exact W.fret rfl ⟨rfl, Below.via hb010 (Below.via hb11 hb12)⟩
end Go.Proofs.Ytehjmakiljhjdaa
namespace Go.Proofs.Ytehjmakiljhjdaa.VW
open Go Go.RowKit
theorem run_res1 {P : Program} [Tab P] {n : Nat} {ρ : E} {w : World} {fn : Func} {a t b t' : Nat} {v : Value} (hres : fn.results = #[.cell a t]) (hl : look ρ a = some (.pointer (some ⟨b, 0, none⟩))) (hs : tyS P t = some 1) (hg : tyAgg P t = some false)
    (hb : Blk w b #[v] t') : ∀ act, Rep n act ρ → (results fn act.tmps).run P w = .ok v w := by
  intro act hr
  have hsl := hr.slot a _ hl
  rw [Array.getD_eq_getD_getElem?] at hsl
  have hc : w.cell? ⟨b, 0, none⟩ = some v := hb.cell rfl
  simp [results, hres, hsl, asAddr, loadVar, run_isAgg hg, load, Sem.run, hc]
end Go.Proofs.Ytehjmakiljhjdaa.VW
namespace Go.Proofs.Ytehjmakiljhjdaa
open Go Go.RowKit Go.Proofs.Ytehjmakiljhjdaa.VW
attribute [local irreducible] W Ops OrdA VW.Ord OrdX Wi OpsI
def badP (x : Int) : Bool := !inR x (-1000000) 1000000
theorem badP_c (x : Int) (w : World) : Calls Try.prog 67 #[.int .i64 x] w (Ret fun v w' => v = .bool (badP x) ∧ Below w.heap.size w w') := by
  refine calls_W (vs := [_]) Try.func67 rfl (by kernel_rfl) rfl ?_
  (repeat (first | with_reducible refine W.seq ?_ | with_reducible refine Ops.nil ?_ | with_reducible refine W.region ?_ | refine z_p (kk := ?_)))
  refine Ops.callS rfl rfl rfl rfl rfl (within_c _ _ _ _) ?_
  (repeat (first | with_reducible refine Ops.nil ?_ | refine z_p (kk := ?_)))
  exact W.fret rfl ⟨rfl, Below.refl _ _⟩
theorem any_badP {u : List Int} : u.any badP = false ↔ ∀ i, i < u.length → Bd u i := by
  rw [List.any_eq_false]
  constructor
  · intro h i hi
    have := h _ (getD_memI hi)
    unfold badP inR at this
    unfold Bd
    simp only [Bool.not_eq_true', Bool.and_eq_false_iff, decide_eq_false_iff_not, not_or, Classical.not_not] at this
    exact this
  · intro h x hx
    obtain ⟨i, hi, rfl⟩ := mem_getDI hx
    have := h i hi
    unfold Bd at this
    unfold badP inR
    simp only [Bool.not_eq_true', Bool.and_eq_false_iff, decide_eq_false_iff_not, not_or, Classical.not_not]
    exact this
set_option maxHeartbeats 4000000 in
theorem Check_c {w : World} {cv av uv vv : Value} {c : List (List Int)} {a u v : List Int} (hM : RowsM w cv c) (ha : Arg w av a) (hu : SlI w uv u) (hv : SlI w vv v) :
    Calls Try.prog 40 #[cv, av, uv, vv] w (Ret fun r w' => r = .int .i64 (if costsB c = true then (if Prov c a u v then 0 else 10) else 2) ∧ Below w.heap.size w w') := by
  have hul := Sl.len hu
  have hvl := Sl.len hv
  have hal := Sl.len ha.1
  obtain ⟨Ac, cc, rfl⟩ := hM.sl
  obtain ⟨Aa, ca, rfl⟩ := Sl.shape ha.1
  obtain ⟨Au, cu, rfl⟩ := Sl.shape hu
  obtain ⟨Av, cv, rfl⟩ := Sl.shape hv
  refine calls_W (vs := [_, _, _, _]) Try.func40 rfl (by kernel_rfl) rfl ?_
  (repeat (first | with_reducible refine W.seq ?_ | with_reducible refine W.region ?_))
  refine Ops.box rfl rfl rfl rfl (fun w1 b4 hM4 => ?_)
  refine Ops.box rfl rfl rfl rfl (fun w2 b6 hM6 => ?_)
  refine Ops.box rfl rfl rfl rfl (fun w3 b7 hM7 => ?_)
  refine Ops.alloc rfl rfl rfl rfl (fun w4 b8 hM8 => ?_)
  have e4 := hM4.r_eq
  have e6 := hM6.r_eq
  have e7 := hM7.r_eq
  have e8 := hM8.r_eq
  have s4 := hM4.size
  have s6 := hM6.size
  have s7 := hM7.size
  have s8 := hM8.size
  have h14 := Mk.bel hM4
  have h26 := Mk.bel hM6
  have h37 := Mk.bel hM7
  have h48 := Mk.bel hM8
  have hb : Below w.heap.size w w4 := Below.via h14 (Below.via h26 (Below.via h37 h48))
  have B4 : Blk w4 b4 #[.slice Ac c.length cc] 22 := Blk.kp hM4.at_ (Kp.of_below (S := fun _ => False) (Below.via h26 (Below.via h37 h48))) (fun e => e)
  have B6 : Blk w4 b6 #[.slice Au u.length cu] 23 := Blk.kp hM6.at_ (Kp.of_below (S := fun _ => False) (Below.via h37 h48)) (fun e => e)
  have B7 : Blk w4 b7 #[.slice Av v.length cv] 23 := Blk.kp hM7.at_ (Kp.of_below (S := fun _ => False) h48) (fun e => e)
  have B8 : Blk w4 b8 #[.int .i64 0] 26 := hM8.at_
  have hM' := hM.below hb
  have ha' := ha.below hb
  have hu' := Sl.below hu hb
  have hv' := Sl.below hv hb
  clear hM4 hM6 hM7 hM8 hM ha hu hv
  (repeat (first | with_reducible refine W.seq ?_ | with_reducible refine Ops.nil ?_ | with_reducible refine W.region ?_ | refine z_d (kk := ?_)))
  refine Ops.call rfl rfl rfl rfl rfl (areCosts_c hM') (fun r w5 hR => ?_)
  obtain ⟨rfl, hb5⟩ := hR
  have B85 : Blk w5 b8 #[.int .i64 0] 26 := B8.kp (Kp.of_below (S := fun _ => False) hb5) (fun e => e)
  have hb05 := Below.via hb hb5
  cases hc : costsB c with
  | false =>
    (repeat (first | with_reducible refine Ops.nil ?_ | refine z_p (kk := ?_)))
    refine W.condT rfl (by first | rfl | assumption | (simp only [bnf] <;> omega) | (simp only [*, bnf]; done) | fail) ?_
    (repeat (first | with_reducible refine W.seq ?_ | with_reducible refine W.region ?_))
    refine Ops.st rfl rfl rfl rfl rfl rfl rfl B85 (by simp) (fun w6 hu6 => ?_)
    have B86 : Blk w6 b8 #[.int .i64 2] 26 := by simpa using hu6.blk
    (repeat (first | with_reducible refine Ops.nil ?_))
    refine W.ret ⟨_, run_res1 rfl rfl rfl rfl B86, ?_, Below.put hb05 hu6.kp (fun i e => by omega)⟩
    rw [if_neg (by simp)]
  | true =>
    have hC := costs_iff.1 hc
    have hn7 := hC.n7
    rw [if_pos rfl]
    have bad10 : ∀ {k : List It} {ρ : E} {wx wy : World} {ds : List Deferred}, ¬ Prov c a u v → Below w.heap.size w wx → VW.look ρ 8 = some (.pointer (some ⟨b8, 0, none⟩)) → Upd wx wy b8 #[.int .i64 10] 26 → VW.W Try.prog Try.f40.ntmps ds (.code .ret :: k) (Fin Try.prog Try.f40 fun r w' => r = .int .i64 (if Prov c a u v then 0 else 10) ∧ Below w.heap.size w w') ρ wy := fun hno hbx hl hU => by
      refine W.ret ⟨_, run_res1 rfl hl rfl rfl hU.blk, ?_, Below.put hbx hU.kp (fun i e => by omega)⟩
      rw [if_neg hno]
    have hM5 := hM'.below hb5
    have ha5 := ha'.below hb5
    have hu5 := Sl.below hu' hb5
    have hv5 := Sl.below hv' hb5
    (repeat (first | with_reducible refine Ops.nil ?_ | refine z_p (kk := ?_)))
    refine W.condF rfl (by first | rfl | assumption | (simp only [bnf] <;> omega) | (simp only [*, bnf]; done) | fail) ?_
    (repeat (first | with_reducible refine W.seq ?_ | with_reducible refine Ops.nil ?_ | with_reducible refine W.region ?_ | refine z_p (kk := ?_) | with_reducible refine W.skip ?_ | refine z_D (kk := ?_)))
    refine Ops.call rfl rfl rfl rfl rfl (isAsg_c hM5 hn7 ha5) (fun r w6 hR => ?_)
    obtain ⟨rfl, rfl⟩ := hR
    by_cases hA : Asg a c.length
    · rw [decide_eq_true hA]
      by_cases hnu : u.length = c.length
      · by_cases hnv : v.length = c.length
        · (repeat (first | refine z_p (kk := ?_) | refine z_y (kk := ?_) | refine z_l (kk := ?_) | refine z_D (kk := ?_) | refine z_h (kk := ?_)))
          refine Ops.call rfl rfl rfl rfl rfl (containsF_c (fc := 67) (first := []) (cap := []) (p := badP) hu5 rfl rfl (fun x w' _ => badP_c x w')) (fun r w7 hR => ?_)
          obtain ⟨rfl, hb7⟩ := hR
          have B87 : Blk w7 b8 #[.int .i64 0] 26 := B85.kp (Kp.of_below (S := fun _ => False) hb7) (fun e => e)
          have hb07 := Below.via hb05 hb7
          have hb47 := Below.via hb5 hb7
          cases hau : u.any badP with
          | true =>
            have hno : ¬ Prov c a u v := fun h => by
              have := any_badP.2 (fun i hi => (h.2.2.2.1 i (by omega)).1)
              rw [hau] at this; cases this
            (repeat (first | with_reducible refine Ops.nil ?_ | refine z_p (kk := ?_) | refine z_n (kk := ?_)))
            refine W.condT rfl (by first | rfl | assumption | (simp only [bnf] <;> omega) | (simp only [*, bnf]; done) | fail) ?_
            (repeat (first | with_reducible refine W.seq ?_ | with_reducible refine W.region ?_))
            refine Ops.st rfl rfl rfl rfl rfl rfl rfl B87 (by simp) (fun w9 hu9 => ?_)
            (repeat (first | with_reducible refine Ops.nil ?_))
            exact bad10 hno hb07 rfl (by simpa using hu9)
          | false =>
            (repeat (first | refine z_p (kk := ?_) | refine z_y (kk := ?_) | refine z_D (kk := ?_)))
            refine Ops.call rfl rfl rfl rfl rfl (containsF_c (fc := 67) (first := []) (cap := []) (p := badP) (Sl.below hv5 hb7) rfl rfl (fun x w' _ => badP_c x w')) (fun r w8 hR => ?_)
            obtain ⟨rfl, hb8⟩ := hR
            have B88 : Blk w8 b8 #[.int .i64 0] 26 := B87.kp (Kp.of_below (S := fun _ => False) hb8) (fun e => e)
            have hb08 := Below.via hb07 hb8
            have hb48 := Below.via hb47 hb8
            cases hav : v.any badP with
            | true =>
              have hno : ¬ Prov c a u v := fun h => by
                have := any_badP.2 (fun i hi => (h.2.2.2.1 i (by omega)).2)
                rw [hav] at this; cases this
              (repeat (first | with_reducible refine Ops.nil ?_ | refine z_p (kk := ?_)))
              refine W.condT rfl (by first | rfl | assumption | (simp only [bnf] <;> omega) | (simp only [*, bnf]; done) | fail) ?_
              (repeat (first | with_reducible refine W.seq ?_ | with_reducible refine W.region ?_))
              refine Ops.st rfl rfl rfl rfl rfl rfl rfl B88 (by simp) (fun w9 hu9 => ?_)
              (repeat (first | with_reducible refine Ops.nil ?_))
              exact bad10 hno hb08 rfl (by simpa using hu9)
            | false =>
              have hbu := any_badP.1 hau
              have hbv := any_badP.1 hav
              (repeat (first | with_reducible refine Ops.nil ?_ | refine z_p (kk := ?_)))
              refine W.condF rfl (by first | rfl | assumption | (simp only [bnf] <;> omega) | (simp only [*, bnf]; done) | fail) ?_
              refine W.skip ?_
              refine W.toJ (JW.seq (by exact rfl) ?_)
              (repeat (first | with_reducible refine W.region ?_ | refine z_D (kk := ?_)))
              refine Ops.call rfl rfl rfl rfl rfl pairs_c (fun rv wE hR => ?_)
              obtain ⟨b89, rfl, hB89, hge89, hlE⟩ := hR
              have hb0E := Below.via hb08 hlE
              have hb4E := Below.via hb48 hlE
              have hb5E := Below.via (Below.via hb7 hb8) hlE
              have B8E : Blk wE b8 #[.int .i64 0] 26 := B88.kp (Kp.of_below (S := fun _ => False) hlE) (fun e => e)
              have B4E : Blk wE b4 #[.slice Ac c.length cc] 22 := B4.kp (Kp.of_below (S := fun _ => False) hb4E) (fun e => e)
              have B6E : Blk wE b6 #[.slice Au u.length cu] 23 := B6.kp (Kp.of_below (S := fun _ => False) hb4E) (fun e => e)
              have B7E : Blk wE b7 #[.slice Av v.length cv] 23 := B7.kp (Kp.of_below (S := fun _ => False) hb4E) (fun e => e)
              have hB89' : Blk wE b89 #[.slice Ac c.length cc] 71 := hB89
              have hME := hM'.below hb4E
              have haE := ha'.below hb4E
              have huE := Sl.below hu' hb4E
              have hvE := Sl.below hv' hb4E
              have s8E := B8E.lt
              have s89E := hB89'.lt
              have hbE5 : Below wE.heap.size wE wE := Below.refl _ _
              clear B4 B6 B7 B8 B85 B87 B88 hM' ha' hu' hv' hM5 ha5 hu5 hv5
              refine Ops.nil (W.endl ?_)
              refine JW.sub (ρ' := [(1, .slice Aa a.length ca), (4, .pointer (some ⟨b4, 0, none⟩)), (6, .pointer (some ⟨b6, 0, none⟩)), (7, .pointer (some ⟨b7, 0, none⟩)), (8, .pointer (some ⟨b8, 0, none⟩)), (46, .func (.func 89) #[] #[.pointer (some ⟨b89, 0, none⟩)])]) (by repeat (first | exact trivial | refine And.intro rfl ?_)) ?_
              refine JW.pairs (b1 := b89) (n := c.length) (A := Ac) (cap := cc) (I := fun i j W => Below wE.heap.size wE W ∧ ∀ p q, p < c.length → q < c.length → (p < i ∨ (p = i ∧ q < j)) → u.getD p 0 + v.getD q 0 ≤ ent c p q)
                (K := fun W => Kp (fun k => k = b8) wE W ∧ Blk W b8 #[.int .i64 10] 26 ∧ ¬ Prov c a u v) (by omega) rfl (by exact rfl) (by exact rfl) (by exact rfl) (fun i j W h => hB89'.kp (Kp.of_below (S := fun _ => False) h.1) (fun e => e)) (fun i W hi h => ⟨h.1, fun p q hp hq hpq => h.2 p q hp hq (by omega)⟩)
                (fun i j W W' h hk => ⟨Below.put h.1 hk (fun k e => by omega), h.2⟩) (fun W W' h hk => ⟨?_, h.2.1.kp hk (fun e => by omega), h.2.2⟩) ⟨hbE5, fun p q hp hq h => by omega⟩ (fun L i j wp hL h hi hj hW => ?_) (fun D w9 hD h hdf => ?_) (fun D w9 hD h hdf => ?_)
              · exact (h.1.trans hk).mono (fun k hk2 e => by omega)
              · refine Wi.seq (Wi.regionN rfl rfl ?_)
                (repeat (first | with_reducible refine Ops.nil ?_ | refine z_p (kk := ?_)))
                refine W.endl ?_
                refine Wi.regionN rfl rfl ?_
                (repeat (first | with_reducible refine Ops.nil ?_ | refine z_p (kk := ?_)))
                refine W.endl ⟨rfl, rfl, fun wq h' hq => ?_⟩
                have hbq := h'.1
                have hcl := hC.len i hi
                have hrow : row c (i : Int) = c.getD i [] := by simp [row]
                have hcb := hC.bd i j hi hj
                have hbu1 := hbu i (by omega)
                have hbv1 := hbv j (by omega)
                unfold Bd at hbu1 hbv1
                have hent : (row c (i : Int)).getD j 0 = ent c i j := by rw [hrow]; rfl
                rw [← hrow] at hcl hcb
                have hbqq : Below wq.heap.size wq wq := Below.refl _ _
                refine Wi.block (Wi.seq (Wi.ordA 99 [(0, 2), (1, 1), (2, 1), (3, 2), (4, 2), (5, 1), (6, 1), (7, 2), (8, 1), (9, 2), (10, 1), (11, 1), (12, 2), (13, 1), (14, 1), (15, 2), (16, 1)] rfl (by kernel_rfl) (by kernel_rfl) (by kernel_rfl) rfl (by kernel_rfl) ?_))
                (repeat (first | refine x_p (kk := ?_) | refine x_a (kk := ?_) | refine x_I (kk := fun _ => ?_) | refine x_r (kk := fun _ _ _ _ => ?_) | refine x_D (kk := ?_)))
                refine OrdA.nil (fun wr hbr => W.endl ?_)
                have hbr' : Kp (fun k => k ≠ wE.heap.size ∧ k ≠ wE.heap.size + 1) wq wr := Kp.of_below hbr
                have hbEr : Below wE.heap.size wE wr := Below.via hbq hbr
                refine Wi.cond rfl (fun hc => ?_) (fun hc => Wi.skip ⟨hbr', .inl ⟨rfl, hbEr, fun p q hp hq hpq => ?_⟩⟩)
                · have hgt : u.getD i 0 + v.getD j 0 > ent c i j := by rw [← hent]; simpa using hc
                  refine Wi.seq (Wi.regionN rfl rfl ?_)
                  refine Ops.st rfl rfl rfl rfl rfl rfl rfl (B8E.kp (Kp.of_below (S := fun _ => False) hbEr) (fun e => e)) (by simp) (fun ws hus => Ops.nil (W.endl ?_))
                  refine Wi.ret ⟨(hbr'.trans hus.kp).mono (fun k _ e => by rcases e with e | e; exact e; omega), .inr ⟨rfl, ((Kp.of_below (S := fun k => k = b8) hbEr).trans hus.kp).mono (fun k _ e => by rcases e with e | e <;> exact e), by simpa using hus.blk, fun h => ?_⟩⟩
                  have := h.2.2.2.2.1 i hi j hj
                  omega
                · by_cases e : p = i ∧ q = j
                  · rw [e.1, e.2, ← hent]
                    have hle : ¬ (u.getD i 0 + v.getD j 0 > (row c (i : Int)).getD j 0) := by simpa using hc
                    omega
                  · exact h'.2 p q hp hq (by omega)
              · obtain ⟨hbD, hall⟩ := h
                have hsD := hbD.size
                have hDlt : D < w9.heap.size := (Array.getElem?_eq_some_iff.1 hdf).1
                have hME9 := hME.below hbD
                have haE9 := haE.below hbD
                have huE9 := Sl.below huE hbD
                have hvE9 := Sl.below hvE hbD
                have B8D : Blk w9 b8 #[.int .i64 0] 26 := B8E.kp (Kp.of_below (S := fun _ => False) hbD) (fun e => e)
                have B4D : Blk w9 b4 #[.slice Ac c.length cc] 22 := B4E.kp (Kp.of_below (S := fun _ => False) hbD) (fun e => e)
                have B6D : Blk w9 b6 #[.slice Au u.length cu] 23 := B6E.kp (Kp.of_below (S := fun _ => False) hbD) (fun e => e)
                have B7D : Blk w9 b7 #[.slice Av v.length cv] 23 := B7E.kp (Kp.of_below (S := fun _ => False) hbD) (fun e => e)
                have hb0D := Below.via hb0E hbD
                have hb99 : Below w9.heap.size w9 w9 := Below.refl _ _
                clear B4E B6E B7E B8E
                (repeat (first | with_reducible refine W.seq ?_ | with_reducible refine Ops.nil ?_ | with_reducible refine W.region ?_ | refine z_p (kk := ?_) | with_reducible refine W.block ?_ | refine z_l (kk := ?_) | refine z_d (kk := ?_)))
                refine W.loop (fun m ρ w10 => ∃ (i : Nat), m = u.length - i ∧ i ≤ u.length ∧ ρ = [(1, .slice Aa a.length ca), (4, .pointer (some ⟨b4, 0, none⟩)), (6, .pointer (some ⟨b6, 0, none⟩)), (7, .pointer (some ⟨b7, 0, none⟩)), (8, .pointer (some ⟨b8, 0, none⟩)), (12, .int .i64 (sumP u v i)), (67, .int .i64 u.length), (68, .int .i64 i)] ∧ Below w9.heap.size w9 w10)
                  ⟨_, _, ⟨0, rfl, Nat.zero_le _, rfl, hb99⟩, (by repeat (first | exact trivial | refine And.intro rfl ?_))⟩ ?_
                clear hb99
                rintro m ρ w10 ⟨i, rfl, hi, rfl, hb10⟩
                have hsb := sumP_bd (u := u) (v := v) (n := c.length) (fun i hi => ⟨hbu i (by omega), hbv i (by omega)⟩) i (by omega)
                (repeat (first | with_reducible refine W.seq ?_ | with_reducible refine Ops.nil ?_ | with_reducible refine W.region ?_ | refine z_p (kk := ?_)))
                (first | refine W.condD rfl (fun hc => ?_) (fun hc => ?_) | refine W.condE rfl (fun hc => ?_) (fun hc => ?_) | refine W.condN rfl (fun hc => ?_) (fun hc => ?_) | refine W.cond rfl (fun hc => ?_) (fun hc => ?_))
                · have hil : i < u.length := by omega
                  have hbu1 := hbu i (by omega)
                  have hbv1 := hbv i (by omega)
                  unfold Bd at hbu1 hbv1
                  (repeat (first | with_reducible refine W.seq ?_ | with_reducible refine Ops.nil ?_ | with_reducible refine W.region ?_ | refine z_p (kk := ?_) | with_reducible refine W.skip ?_ | with_reducible refine W.block ?_))
                  refine W.ordA 99 [(0, 1), (1, 2), (2, 1), (3, 1), (4, 2), (5, 2), (6, 1), (7, 1), (8, 2), (9, 1), (10, 1), (11, 1)] rfl (by kernel_rfl) rfl (by kernel_rfl) (fun _ _ _ h => by cases h.1) ?_
                  (repeat (first | refine x_p (kk := ?_) | refine x_a (kk := ?_) | refine x_I (kk := fun _ => ?_) | refine x_D (kk := ?_)))
                  refine OrdA.nil (fun w11 hb11 => ?_)
                  have hsum : sumP u v i + (u.getD i 0 + v.getD i 0) = sumP u v (i + 1) := by simp only [sumP]; omega
                  (repeat (first | with_reducible refine Ops.nil ?_ | with_reducible refine W.region ?_ | refine z_p (kk := ?_) | refine z_a (kk := ?_) | with_reducible refine W.endb ?_))
                  refine W.endl ⟨_, _, ⟨⟨i + 1, rfl, by omega, rfl, Below.via hb10 hb11⟩, by omega⟩, ?_⟩
                  rw [← hsum]
                  exact (by repeat (first | exact trivial | refine And.intro rfl ?_))
                · have hil : i = c.length := by omega
                  subst hil
                  have hb010 := Below.via hb0D hb10
                  have B810 : Blk w10 b8 #[.int .i64 0] 26 := B8D.kp (Kp.of_below (S := fun _ => False) hb10) (fun e => e)
                  have hdf10 : w10.heap[D]? = some (.deferred (some [])) := (hb10.block D hDlt).trans hdf
                  have hDb8 : ¬ D = b8 := by omega
                  (repeat (first | with_reducible refine W.seq ?_ | with_reducible refine W.region ?_ | refine z_p (kk := ?_) | refine W.exit rfl ?_ | refine z_D (kk := ?_)))
                  refine Ops.call rfl rfl rfl rfl rfl (total_c (hME9.below hb10) hC (Sl.below haE9.1 hb10) (fun i hi => (hA.2 i hi).1) (by rw [hA.1]; exact Nat.le_refl _)) (fun r w11 hR => ?_)
                  obtain ⟨rfl, rfl⟩ := hR
                  rw [hA.1]
                  by_cases hs : sumP u v c.length = totP c a c.length
                  · have hP : Prov c a u v := ⟨hA, hnu, hnv, fun i hi => ⟨hbu i (by omega), hbv i (by omega)⟩, fun i hi j hj => hall i j hi hj (.inl hi), hs⟩
                    (repeat (first | with_reducible refine Ops.nil ?_ | refine z_p (kk := ?_)))
                    refine W.condF rfl (by first | rfl | assumption | (simp only [bnf] <;> omega) | (simp only [*, bnf]; done) | fail) ?_
                    (repeat (first | with_reducible refine W.seq ?_ | with_reducible refine W.region ?_ | with_reducible refine W.skip ?_))
                    refine Ops.st rfl rfl rfl rfl rfl rfl rfl B810 (by simp) (fun w12 hu12 => ?_)
                    have B812 : Blk w12 b8 #[.int .i64 0] 26 := by simpa using hu12.blk
                    (repeat (first | with_reducible refine Ops.nil ?_))
                    refine W.ret ⟨rfl, at_kp hdf10 hu12.kp hDb8, _, run_res1 rfl rfl rfl rfl (B812.kp (kp_putObj (r := D) (.deferred none)) (fun e => hDb8 e.symm)), ?_, ?_⟩
                    · rw [if_pos hP]
                    · exact Below.put (Below.put hb010 hu12.kp (fun k e => by omega)) (kp_putObj (r := D) (.deferred none)) (fun k e => by have := hb0E.size; omega)
                  · (repeat (first | with_reducible refine Ops.nil ?_ | refine z_p (kk := ?_)))
                    refine W.condT rfl (by first | rfl | assumption | (simp only [bnf] <;> omega) | (simp only [*, bnf]; done) | fail) ?_
                    (repeat (first | with_reducible refine W.seq ?_ | with_reducible refine W.region ?_))
                    refine Ops.st rfl rfl rfl rfl rfl rfl rfl B810 (by simp) (fun w12 hu12 => ?_)
                    have B812 : Blk w12 b8 #[.int .i64 10] 26 := by simpa using hu12.blk
                    (repeat (first | with_reducible refine Ops.nil ?_))
                    refine W.ret ⟨rfl, at_kp hdf10 hu12.kp hDb8, _, run_res1 rfl rfl rfl rfl (B812.kp (kp_putObj (r := D) (.deferred none)) (fun e => hDb8 e.symm)), ?_, ?_⟩
                    · rw [if_neg (fun h => hs h.2.2.2.2.2)]
                    · exact Below.put (Below.put hb010 hu12.kp (fun k e => by omega)) (kp_putObj (r := D) (.deferred none)) (fun k e => by have := hb0E.size; omega)
              · obtain ⟨hk, hB, hno⟩ := h
                refine ⟨_, run_res1 rfl rfl rfl rfl (hB.kp (kp_putObj (r := D) (.deferred none)) (fun e => by omega)), ?_, ?_⟩
                · rw [if_neg hno]
                · exact Below.put (Below.put hb0E hk (fun k e => by omega)) (kp_putObj (r := D) (.deferred none)) (fun k e => by have := hb0E.size; omega)
        · have hnv' : ¬ (v.length : Int) = c.length := by omega
          (repeat (first | with_reducible refine Ops.nil ?_ | refine z_p (kk := ?_) | refine z_y (kk := ?_) | refine z_n (kk := ?_) | refine z_l (kk := ?_) | refine z_D (kk := ?_) | refine z_g (kk := ?_) | refine z_h (kk := ?_)))
          refine W.condT rfl (by first | rfl | assumption | (simp only [bnf] <;> omega) | (simp only [*, bnf]; done) | fail) ?_
          (repeat (first | with_reducible refine W.seq ?_ | with_reducible refine W.region ?_))
          refine Ops.st rfl rfl rfl rfl rfl rfl rfl B85 (by simp) (fun w9 hu9 => ?_)
          (repeat (first | with_reducible refine Ops.nil ?_))
          exact bad10 (fun h => hnv h.2.2.1) hb05 rfl (by simpa using hu9)
      · have hnu' : ¬ (u.length : Int) = c.length := by omega
        (repeat (first | with_reducible refine Ops.nil ?_ | refine z_p (kk := ?_) | refine z_y (kk := ?_) | refine z_n (kk := ?_) | refine z_l (kk := ?_) | refine z_D (kk := ?_) | refine z_g (kk := ?_)))
        refine W.condT rfl (by first | rfl | assumption | (simp only [bnf] <;> omega) | (simp only [*, bnf]; done) | fail) ?_
        (repeat (first | with_reducible refine W.seq ?_ | with_reducible refine W.region ?_))
        refine Ops.st rfl rfl rfl rfl rfl rfl rfl B85 (by simp) (fun w9 hu9 => ?_)
        (repeat (first | with_reducible refine Ops.nil ?_))
        exact bad10 (fun h => hnu h.2.1) hb05 rfl (by simpa using hu9)
    · rw [decide_eq_false hA]
      (repeat (first | with_reducible refine Ops.nil ?_ | refine z_p (kk := ?_) | refine z_n (kk := ?_)))
      refine W.condT rfl (by first | rfl | assumption | (simp only [bnf] <;> omega) | (simp only [*, bnf]; done) | fail) ?_
      (repeat (first | with_reducible refine W.seq ?_ | with_reducible refine W.region ?_))
      refine Ops.st rfl rfl rfl rfl rfl rfl rfl B85 (by simp) (fun w9 hu9 => ?_)
      (repeat (first | with_reducible refine Ops.nil ?_))
      exact bad10 (fun h => hA h.1) hb05 rfl (by simpa using hu9)
end Go.Proofs.Ytehjmakiljhjdaa
namespace Go.Proofs.Ytehjmakiljhjdaa
open Go Go.RowKit Go.Proofs.Ytehjmakiljhjdaa.VW
attribute [local irreducible] W Ops OrdA VW.Ord OrdX
set_option maxHeartbeats 4000000 in
theorem checksLaw_c {w : World} {mv v0 v1 v2 : Value} {l : List (List Int)} {x0 x1 x2 : List Int} (hm : ArgR w mv l) (h0 : Arg w v0 x0) (h1 : Arg w v1 x1) (h2 : Arg w v2 x2) :
    Calls Try.prog 7 #[mv, .agg #[v0, v1, v2]] w (Ret fun r w' => r = .bool true ∧ Below w.heap.size w w') := by
  refine calls_W (vs := [_, _]) Try.func7 rfl (by kernel_rfl) rfl ?_
  (repeat (first | with_reducible refine W.seq ?_ | with_reducible refine W.region ?_))
  refine Ops.box rfl rfl rfl rfl (fun w1 b3 hM3 => ?_)
  have hB3 : Blk w1 b3 #[v0, v1, v2] 54 := hM3.at_
  have hb1 := Mk.bel hM3
  (repeat (first | with_reducible refine W.seq ?_ | with_reducible refine Ops.nil ?_ | with_reducible refine W.region ?_ | refine z_p (kk := ?_)))
  have hm1 : ArgR w1 mv l := ⟨hm.1.below hb1, fun i i0 i1 => by
    obtain ⟨a, k, A', k', e1, e2, e3, e4⟩ := hm.2 i i0 i1
    exact ⟨a, k, A', k', e1, Sl.below e2 hb1, e3, fun w' hw => e4 w' (Below.via hb1 hw)⟩⟩
  refine Ops.call rfl rfl rfl rfl rfl (table_c hm1) (fun tv w2 hR => ?_)
  obtain ⟨cvs, hR⟩ := hR
  have hb2 := hR.o.bel
  have hM2 := hR.rowsM
  clear hR hm hm1
  generalize tab l = c at *
  obtain ⟨At, ct, rfl⟩ := hM2.sl
  have hb02 := Below.via hb1 hb2
  have hB2 : Blk w2 b3 #[v0, v1, v2] 54 := hB3.kp (Kp.of_below (S := fun _ => False) hb2) (fun e => e)
  have g0 := h0.below hb02
  have g1 := h1.below hb02
  have g2 := h2.below hb02
  (repeat (first | with_reducible refine W.seq ?_ | with_reducible refine Ops.nil ?_ | refine z_p (kk := ?_)))
  refine W.ord (hm := rfl) 99 (fun w' => Below w2.heap.size w2 w') [(0, 1), (1, 2), (3, 1), (4, 2), (6, 1), (7, 2), (2, 0), (5, 0), (8, 0), (9, 1), (10, 1), (11, 1)] (by kernel_rfl) rfl (by kernel_rfl) (fun w3 k3 _ => ⟨Kp.below k3 (Nat.le_refl _) (fun _ _ e => e), ?_⟩)
  have hb3 : Below w2.heap.size w2 w3 := Kp.below k3 (Nat.le_refl _) (fun _ _ e => e)
  refine VW.Ord.pure rfl rfl rfl rfl (fun _ _ _ h => h) (fun w => EV.idxP rfl rfl rfl rfl rfl (by omega) (by omega)) ?_
  rw [add_lit]
  (repeat (first | refine y_D (kk := ?_)))
  refine VW.Ord.pure rfl rfl rfl rfl (fun _ _ _ h => h) (fun w => EV.idxP rfl rfl rfl rfl rfl (by omega) (by omega)) ?_
  rw [add_lit]
  (repeat (first | refine y_D (kk := ?_)))
  refine VW.Ord.pure rfl rfl rfl rfl (fun _ _ _ h => h) (fun w => EV.idxP rfl rfl rfl rfl rfl (by omega) (by omega)) ?_
  rw [add_lit]
  (repeat (first | refine y_D (kk := ?_)))
  refine VW.Ord.effF rfl (Ops.call rfl rfl rfl rfl rfl (list_c (g0.below hb3)) (fun av w4 hA => Ops.nil (W.endl ⟨Below.via hb3 hA.bel, ?_⟩)))
  have hb4 := Below.via hb3 hA.bel
  refine VW.Ord.effF rfl (Ops.call rfl rfl rfl rfl rfl (list_c (g1.below hb4)) (fun uv w5 hU => Ops.nil (W.endl ⟨Below.via hb4 hU.bel, ?_⟩)))
  have hb5 := Below.via hb4 hU.bel
  refine VW.Ord.effF rfl (Ops.call rfl rfl rfl rfl rfl (list_c (g2.below hb5)) (fun vv w6 hV => Ops.nil (W.endl ⟨Below.via hb5 hV.bel, ?_⟩)))
  have hb6 := Below.via hb5 hV.bel
  have hb06 := Below.via hb02 hb6
  have hM6 := hM2.below hb6
  have hA6 := (hA.below hU.bel).below hV.bel
  have hU6 := hU.below hV.bel
  have aA := oi_arg hA6
  have sU := hU6.sl (z := (0 : Int))
  have sV := hV.sl (z := (0 : Int))
  clear hA hU hV hA6 hU6 g0 g1 g2 h0 h1 h2
  generalize x0.take 8 = a at *
  generalize x1.take 8 = u at *
  generalize x2.take 8 = v at *
  (repeat (first | refine y_p (kk := ?_)))
  refine VW.Ord.nil ?_
  (repeat (first | with_reducible refine W.seq ?_ | with_reducible refine W.region ?_ | refine z_p (kk := ?_)))
  refine Ops.call rfl rfl rfl rfl rfl (Check_c hM6 aA sU sV) (fun r w7 hR => ?_)
  obtain ⟨rfl, hb7⟩ := hR
  have hM7 := hM6.below hb7
  have aA7 := aA.below hb7
  (repeat (first | with_reducible refine W.seq ?_ | with_reducible refine Ops.nil ?_ | with_reducible refine W.region ?_ | refine z_p (kk := ?_)))
  refine Ops.call rfl rfl rfl rfl rfl (Total_c hM7 aA7) (fun r w8 hR => ?_)
  obtain ⟨rfl, hb8⟩ := hR
  have hM8 := hM7.below hb8
  have aA8 := aA7.below hb8
  have hb68 := Below.via hb7 hb8
  have sU8 := Sl.below sU hb68
  have sV8 := Sl.below sV hb68
  cases hc : costsB c with
  | false =>
    rw [if_neg (by simp), if_neg (by simp)]
    (repeat (first | with_reducible refine W.seq ?_ | with_reducible refine Ops.nil ?_ | with_reducible refine W.region ?_ | refine z_p (kk := ?_)))
    refine Ops.call rfl rfl rfl rfl rfl (refCosts_c hM8) (fun r w9 hR => ?_)
    obtain ⟨rfl, hb9⟩ := hR
    rw [hc]
    (repeat (first | with_reducible refine Ops.nil ?_ | refine z_p (kk := ?_)))
    refine W.condT rfl (by first | rfl | assumption | (simp only [bnf] <;> omega) | (simp only [*, bnf]; done) | fail) ?_
    (repeat (first | with_reducible refine W.seq ?_ | with_reducible refine W.region ?_ | refine z_p (kk := ?_) | refine z_y (kk := ?_)))
    refine Ops.call rfl rfl rfl rfl rfl (awake_c _) (fun r w10 hR => ?_)
    obtain ⟨rfl, hb10⟩ := hR
    (repeat (first | with_reducible refine Ops.nil ?_ | refine z_p (kk := ?_)))
    exact W.fret rfl ⟨rfl, Below.via hb06 (Below.via hb68 (Below.via hb9 hb10))⟩
  | true =>
    have hC := costs_iff.1 hc
    have hn7 := hC.n7
    rw [if_pos rfl]
    simp only [true_and]
    by_cases hP : Prov c a u v
    · have hA : Asg a c.length := hP.1
      rw [if_pos hP, if_pos hA]
      (repeat (first | with_reducible refine W.seq ?_ | with_reducible refine Ops.nil ?_ | with_reducible refine W.region ?_ | refine z_p (kk := ?_)))
      refine Ops.call rfl rfl rfl rfl rfl (refCosts_c hM8) (fun r w9 hR => ?_)
      obtain ⟨rfl, hb9⟩ := hR
      have hM9 := hM8.below hb9
      have aA9 := aA8.below hb9
      rw [hc]
      (repeat (first | with_reducible refine Ops.nil ?_ | refine z_p (kk := ?_)))
      refine W.condF rfl (by first | rfl | assumption | (simp only [bnf] <;> omega) | (simp only [*, bnf]; done) | fail) ?_
      (repeat (first | with_reducible refine W.seq ?_ | with_reducible refine W.region ?_ | refine z_p (kk := ?_) | with_reducible refine W.skip ?_))
      refine Ops.call rfl rfl rfl rfl rfl (proves_c hM9 hC aA9.1 (Sl.below sU8 hb9) (Sl.below sV8 hb9)) (fun r w10 hR => ?_)
      obtain ⟨rfl, hb10⟩ := hR
      have hM10 := hM9.below hb10
      have aA10 := aA9.below hb10
      have hb010 := Below.via hb06 (Below.via hb68 (Below.via hb9 hb10))
      rw [decide_eq_true hP]
      (repeat (first | with_reducible refine Ops.nil ?_ | refine z_p (kk := ?_) | refine z_y (kk := ?_) | refine z_n (kk := ?_) | refine z_E (kk := ?_)))
      refine W.condF rfl (by first | rfl | assumption | (simp only [bnf] <;> omega) | (simp only [*, bnf]; done) | fail) ?_
      (repeat (first | with_reducible refine W.seq ?_ | with_reducible refine W.region ?_ | refine z_p (kk := ?_) | with_reducible refine W.skip ?_ | refine z_l (kk := ?_)))
      refine Ops.call rfl rfl rfl rfl rfl (refAsg_c aA10.1 (n := c.length) (by omega)) (fun r w11 hR => ?_)
      obtain ⟨rfl, hb11⟩ := hR
      have hM11 := hM10.below hb11
      have hb011 := Below.via hb010 hb11
      rw [decide_eq_true hA]
      (repeat (first | with_reducible refine Ops.nil ?_ | refine z_p (kk := ?_)))
      refine W.condF rfl (by first | rfl | assumption | (simp only [bnf] <;> omega) | (simp only [*, bnf]; done) | fail) ?_
      (repeat (first | with_reducible refine W.seq ?_ | with_reducible refine W.region ?_ | refine z_p (kk := ?_) | with_reducible refine W.skip ?_))
      refine Ops.call rfl rfl rfl rfl rfl (refTotal_c hM11 hC (Sl.below aA10.1 hb11) (fun q hq => (hA.2 q hq).1) (by rw [hA.1]; exact Nat.le_refl _)) (fun r w12 hR => ?_)
      obtain ⟨rfl, hb12⟩ := hR
      rw [hA.1]
      (repeat (first | refine z_p (kk := ?_) | refine z_y (kk := ?_) | refine z_h (kk := ?_)))
      refine Ops.call rfl rfl rfl rfl rfl (awake_c _) (fun r w13 hR => ?_)
      obtain ⟨rfl, hb13⟩ := hR
      (repeat (first | with_reducible refine Ops.nil ?_ | refine z_p (kk := ?_)))
      exact W.fret rfl ⟨rfl, Below.via hb011 (Below.via hb12 hb13)⟩
    · rw [if_neg hP]
      by_cases hA : Asg a c.length
      · rw [if_pos hA]
        (repeat (first | with_reducible refine W.seq ?_ | with_reducible refine Ops.nil ?_ | with_reducible refine W.region ?_ | refine z_p (kk := ?_)))
        refine Ops.call rfl rfl rfl rfl rfl (refCosts_c hM8) (fun r w9 hR => ?_)
        obtain ⟨rfl, hb9⟩ := hR
        have hM9 := hM8.below hb9
        have aA9 := aA8.below hb9
        rw [hc]
        (repeat (first | with_reducible refine Ops.nil ?_ | refine z_p (kk := ?_)))
        refine W.condF rfl (by first | rfl | assumption | (simp only [bnf] <;> omega) | (simp only [*, bnf]; done) | fail) ?_
        (repeat (first | with_reducible refine W.seq ?_ | with_reducible refine W.region ?_ | refine z_p (kk := ?_) | with_reducible refine W.skip ?_))
        refine Ops.call rfl rfl rfl rfl rfl (proves_c hM9 hC aA9.1 (Sl.below sU8 hb9) (Sl.below sV8 hb9)) (fun r w10 hR => ?_)
        obtain ⟨rfl, hb10⟩ := hR
        have hM10 := hM9.below hb10
        have aA10 := aA9.below hb10
        have hb010 := Below.via hb06 (Below.via hb68 (Below.via hb9 hb10))
        rw [decide_eq_false hP]
        (repeat (first | with_reducible refine Ops.nil ?_ | refine z_p (kk := ?_) | refine z_y (kk := ?_) | refine z_E (kk := ?_)))
        refine W.condF rfl (by first | rfl | assumption | (simp only [bnf] <;> omega) | (simp only [*, bnf]; done) | fail) ?_
        (repeat (first | with_reducible refine W.seq ?_ | with_reducible refine W.region ?_ | refine z_p (kk := ?_) | with_reducible refine W.skip ?_ | refine z_l (kk := ?_)))
        refine Ops.call rfl rfl rfl rfl rfl (refAsg_c aA10.1 (n := c.length) (by omega)) (fun r w11 hR => ?_)
        obtain ⟨rfl, hb11⟩ := hR
        have hM11 := hM10.below hb11
        have hb011 := Below.via hb010 hb11
        rw [decide_eq_true hA]
        (repeat (first | with_reducible refine Ops.nil ?_ | refine z_p (kk := ?_)))
        refine W.condF rfl (by first | rfl | assumption | (simp only [bnf] <;> omega) | (simp only [*, bnf]; done) | fail) ?_
        (repeat (first | with_reducible refine W.seq ?_ | with_reducible refine W.region ?_ | refine z_p (kk := ?_) | with_reducible refine W.skip ?_))
        refine Ops.call rfl rfl rfl rfl rfl (refTotal_c hM11 hC (Sl.below aA10.1 hb11) (fun q hq => (hA.2 q hq).1) (by rw [hA.1]; exact Nat.le_refl _)) (fun r w12 hR => ?_)
        obtain ⟨rfl, hb12⟩ := hR
        rw [hA.1]
        (repeat (first | refine z_p (kk := ?_) | refine z_y (kk := ?_) | refine z_h (kk := ?_)))
        refine Ops.call rfl rfl rfl rfl rfl (awake_c _) (fun r w13 hR => ?_)
        obtain ⟨rfl, hb13⟩ := hR
        (repeat (first | with_reducible refine Ops.nil ?_ | refine z_p (kk := ?_)))
        exact W.fret rfl ⟨rfl, Below.via hb011 (Below.via hb12 hb13)⟩
      · rw [if_neg hA]
        (repeat (first | with_reducible refine W.seq ?_ | with_reducible refine Ops.nil ?_ | with_reducible refine W.region ?_ | refine z_p (kk := ?_)))
        refine Ops.call rfl rfl rfl rfl rfl (refCosts_c hM8) (fun r w9 hR => ?_)
        obtain ⟨rfl, hb9⟩ := hR
        have hM9 := hM8.below hb9
        have aA9 := aA8.below hb9
        rw [hc]
        (repeat (first | with_reducible refine Ops.nil ?_ | refine z_p (kk := ?_)))
        refine W.condF rfl (by first | rfl | assumption | (simp only [bnf] <;> omega) | (simp only [*, bnf]; done) | fail) ?_
        (repeat (first | with_reducible refine W.seq ?_ | with_reducible refine W.region ?_ | refine z_p (kk := ?_) | with_reducible refine W.skip ?_))
        refine Ops.call rfl rfl rfl rfl rfl (proves_c hM9 hC aA9.1 (Sl.below sU8 hb9) (Sl.below sV8 hb9)) (fun r w10 hR => ?_)
        obtain ⟨rfl, hb10⟩ := hR
        have hM10 := hM9.below hb10
        have aA10 := aA9.below hb10
        have hb010 := Below.via hb06 (Below.via hb68 (Below.via hb9 hb10))
        rw [decide_eq_false hP]
        (repeat (first | with_reducible refine Ops.nil ?_ | refine z_p (kk := ?_) | refine z_y (kk := ?_) | refine z_E (kk := ?_)))
        refine W.condF rfl (by first | rfl | assumption | (simp only [bnf] <;> omega) | (simp only [*, bnf]; done) | fail) ?_
        (repeat (first | with_reducible refine W.seq ?_ | with_reducible refine W.region ?_ | refine z_p (kk := ?_) | with_reducible refine W.skip ?_ | refine z_l (kk := ?_)))
        refine Ops.call rfl rfl rfl rfl rfl (refAsg_c aA10.1 (n := c.length) (by omega)) (fun r w11 hR => ?_)
        obtain ⟨rfl, hb11⟩ := hR
        have hM11 := hM10.below hb11
        have hb011 := Below.via hb010 hb11
        rw [decide_eq_false hA]
        (repeat (first | with_reducible refine Ops.nil ?_ | refine z_p (kk := ?_)))
        refine W.condT rfl (by first | rfl | assumption | (simp only [bnf] <;> omega) | (simp only [*, bnf]; done) | fail) ?_
        (repeat (first | with_reducible refine W.seq ?_ | with_reducible refine W.region ?_ | refine z_p (kk := ?_) | refine z_y (kk := ?_)))
        refine Ops.call rfl rfl rfl rfl rfl (awake_c _) (fun r w13 hR => ?_)
        obtain ⟨rfl, hb13⟩ := hR
        (repeat (first | with_reducible refine Ops.nil ?_ | refine z_p (kk := ?_)))
        exact W.fret rfl ⟨rfl, Below.via hb011 hb13⟩
end Go.Proofs.Ytehjmakiljhjdaa
