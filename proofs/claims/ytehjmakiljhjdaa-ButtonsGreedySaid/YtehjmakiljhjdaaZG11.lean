/- A part of the walk: what this seat's statements share. -/
import Derived.Test.YtehjmakiljhjdaaZG10
import Derived.Test.YtehjmakiljhjdaaZG8
import Derived.Test.YtehjmakiljhjdaaZG9
import Derived.Test.YtehjmakiljhjdaaZG6
import Derived.Test.YtehjmakiljhjdaaZG5
set_option linter.unusedVariables false
set_option linter.unusedSimpArgs false
set_option linter.unusedSectionVars false
namespace Go.Proofs.Ytehjmakiljhjdaa
open Go Go.RowKit Go.Proofs.Ytehjmakiljhjdaa.VW
attribute [local irreducible] W Ops OrdA VW.Ord OrdX
set_option maxHeartbeats 8000000 in
set_option maxRecDepth 20000 in
theorem provedLaw_c {w : World} {mv lv : Value} {n : Int} {l : List (List Int)} {by_ : List Int} (hm : ArgR w mv l) (hl : Arg w lv by_) :
    Calls Try.prog 6 #[.int .i64 n, mv, lv] w (Ret fun r w' => r = .bool true ∧ Below w.heap.size w w') := by
  refine calls_W (vs := [_, _, _]) Try.func6 rfl (by kernel_rfl) rfl ?_
  (repeat (first | with_reducible refine W.seq ?_ | with_reducible refine Ops.nil ?_ | with_reducible refine W.region ?_ | refine z_p (kk := ?_)))
  refine Ops.callS rfl rfl rfl rfl rfl (mod_c _ _ _ (by omega) (by omega)) ?_
  have hmb := modI_bd n (n := 7) (by omega)
  obtain ⟨n0, hn0⟩ := Int.eq_ofNat_of_zero_le hmb.1
  rw [hn0] at hmb ⊢
  (repeat (first | with_reducible refine W.seq ?_ | with_reducible refine Ops.nil ?_ | with_reducible refine W.region ?_ | refine z_p (kk := ?_) | refine z_a (kk := ?_)))
  rw [show (1 : Int) + ((n0 : Nat) : Int) = ((n0 + 1 : Nat) : Int) by omega]
  refine Ops.call rfl rfl rfl rfl rfl (tame_c hm.1 (n := n0 + 1) (by omega) (by omega) (by omega)) (fun tv w2 hR => ?_)
  obtain ⟨cvs, hR⟩ := hR
  have hb2 := hR.o.bel
  have hM2 := hR.rowsM
  change RowsM w2 tv (tmC l (n0 + 1) 1000) at hM2
  have hC := tmC_cst l (n := n0 + 1) (most := 1000) (by omega) (by omega) (by omega) (by omega)
  have hcl := tmC_len l (n0 + 1) 1000
  generalize tmC l (n0 + 1) 1000 = c at *
  clear hR
  have hcB : costsB c = true := costs_iff.2 hC
  obtain ⟨Ac, cc, rfl⟩ := hM2.sl
  (repeat (first | with_reducible refine W.seq ?_ | with_reducible refine Ops.nil ?_ | with_reducible refine W.region ?_ | refine z_p (kk := ?_)))
  refine Ops.call rfl rfl rfl rfl rfl (Best_c hM2) (fun r w3 hR => ?_)
  obtain ⟨hb3, -, hR⟩ := hR
  obtain ⟨av, uv, vv, u, v, rfl, ha, hu, hv, hP⟩ := hR hcB
  have hM3 := hM2.below hb3
  (repeat (first | with_reducible refine W.seq ?_ | with_reducible refine Ops.nil ?_ | with_reducible refine W.region ?_ | refine z_p (kk := ?_)))
  refine Ops.call rfl rfl rfl rfl rfl (Slack_c hM3) (fun r w4 hR => ?_)
  obtain ⟨sv, scv, rfl, hS⟩ := hR.2 hcB
  have hb4 := hS.o.bel
  have hMS : RowsM w4 sv (slackS c) := hS.rowsM
  clear hS
  have hM4 := hM3.below hb4
  (repeat (first | with_reducible refine W.seq ?_ | with_reducible refine Ops.nil ?_ | with_reducible refine W.region ?_ | refine z_p (kk := ?_)))
  refine Ops.call rfl rfl rfl rfl rfl (Fixed_c hM4) (fun r w5 hR => ?_)
  obtain ⟨hb5, -, hR⟩ := hR
  obtain ⟨xv, rfl, hX⟩ := hR hcB
  have hM5 := hM4.below hb5
  (repeat (first | with_reducible refine W.seq ?_ | with_reducible refine Ops.nil ?_ | with_reducible refine W.region ?_ | refine z_p (kk := ?_)))
  refine Ops.call rfl rfl rfl rfl rfl (pays_c hM5) (fun r w6 hR => ?_)
  obtain ⟨pv, rfl, hp⟩ := hR.2 hcB
  have hb6 := hp.bel
  have hM6 := hM5.below hb6
  have hb36 := Below.via hb4 (Below.via hb5 hb6)
  have hb26 := Below.via hb3 hb36
  (repeat (first | with_reducible refine W.seq ?_ | with_reducible refine Ops.nil ?_ | with_reducible refine W.region ?_ | refine z_p (kk := ?_)))
  refine Ops.call rfl rfl rfl rfl rfl (order_c (Sl.below hl.1 (Below.via hb2 hb26)) (n := n0 + 1) (by omega)) (fun ov w7 hO => ?_)
  have hb7 := hO.bel
  have hAo := ordL_asg by_ (n0 + 1)
  generalize ordL by_ (n0 + 1) = o at *
  rw [← hcl] at hAo
  have hM7 := hM6.below hb7
  have hb37 := Below.via hb36 hb7
  (repeat (first | with_reducible refine W.seq ?_ | with_reducible refine Ops.nil ?_ | with_reducible refine W.region ?_ | refine z_p (kk := ?_)))
  refine Ops.call rfl rfl rfl rfl rfl (Total_c hM7 (oi_arg (ha.below hb37))) (fun r w8 hR => ?_)
  obtain ⟨rfl, hb8⟩ := hR
  rw [if_pos ⟨hcB, firstS_Asg⟩, first_tot]
  have hM8 := hM7.below hb8
  have hb78 := hb8
  (repeat (first | with_reducible refine W.seq ?_ | with_reducible refine Ops.nil ?_ | with_reducible refine W.region ?_ | refine z_p (kk := ?_)))
  refine Ops.call rfl rfl rfl rfl rfl (Total_c hM8 (oi_arg (hO.below hb8))) (fun r w9 hR => ?_)
  obtain ⟨rfl, hb9⟩ := hR
  rw [if_pos ⟨hcB, hAo⟩]
  have hM9 := hM8.below hb9
  have hb79 := Below.via hb8 hb9
  have hb39 := Below.via hb37 hb79
  have hmin := min_le hAo
  have htb := totB hC hAo
  have hmB := minB hC
  have hF := pf hC hP hAo
  (repeat (first | with_reducible refine W.seq ?_ | with_reducible refine Ops.nil ?_ | with_reducible refine W.region ?_ | refine z_p (kk := ?_) | refine z_y (kk := ?_) | refine z_h (kk := ?_)))
  refine Ops.call rfl rfl rfl rfl rfl (proves_c hM9 hC (Sl.below ha.sl hb39) (Sl.below hu.sl hb39) (Sl.below hv.sl hb39)) (fun r w10 hR => ?_)
  obtain ⟨rfl, hb10⟩ := hR
  rw [decide_eq_true hP]
  have hb710 := Below.via hb79 hb10
  have hb610 := Below.via hb7 hb710
  have hb510 := Below.via hb6 hb610
  have hb410 := Below.via hb5 hb510
  have hb310 := Below.via hb4 hb410
  have hb210 := Below.via hb3 hb310
  have hC10 := hM9.below hb10
  have hS10 := hMS.below hb410
  have hA10 := Sl.below (ha.sl (z := (0 : Int))) hb310
  have hU10 := Sl.below (hu.sl (z := (0 : Int))) hb310
  have hV10 := Sl.below (hv.sl (z := (0 : Int))) hb310
  have hX10 := Sl.below (hX.sl (z := (0 : Int))) hb510
  have hP10 := Sl.below (hp.sl (z := (0 : Int))) hb610
  have hO10 := Sl.below (hO.sl (z := (0 : Int))) hb710
  have hb010 := Below.via hb2 hb210
  clear hMS hM2 hM3 hM4 hM5 hM6 hM7 hM8 hM9 ha hu hv hX hp hO hP hl hm
  obtain ⟨fal, ful, fvl, fxl, fpl, fol, fab, fub, f1, f2, f3, f4, f5, f6, f7, f8, f9, f10⟩ := hF
  clear hR
  have hss : (slackS c).length = c.length := by simp [slackS]
  generalize slackS c = S at *
  generalize firstS c c.length 0 = a at *
  generalize fixS S c.length = x at *
  generalize paysS c a c.length = p at *
  obtain ⟨Av, ca, rfl⟩ := Sl.shape hA10
  obtain ⟨Uv, cu, rfl⟩ := Sl.shape hU10
  obtain ⟨Vv, cv2, rfl⟩ := Sl.shape hV10
  obtain ⟨Xv, cx, rfl⟩ := Sl.shape hX10
  obtain ⟨Pv, cp, rfl⟩ := Sl.shape hP10
  obtain ⟨Ov, co, rfl⟩ := Sl.shape hO10
  obtain ⟨As, cs, rfl⟩ := hS10.sl
  (repeat (first | with_reducible refine Ops.nil ?_ | refine z_p (kk := ?_) | refine z_y (kk := ?_) | refine z_l (kk := ?_) | refine z_h (kk := ?_)))
  refine W.condF rfl (by first | rfl | assumption | (simp only [bnf] <;> omega) | (simp only [*, bnf]; done) | fail) ?_
  (repeat (first | with_reducible refine W.seq ?_ | with_reducible refine Ops.nil ?_ | with_reducible refine W.region ?_ | refine z_p (kk := ?_) | with_reducible refine W.skip ?_ | with_reducible refine W.block ?_))
  refine W.loop (fun m ρ w11 => ∃ (i : Nat), m = c.length - i ∧ i ≤ c.length ∧ ρ = [(0, .int .i64 ((n0 + 1 : Nat) : Int)), (7, .slice Ac c.length cc), (8, .slice Av a.length ca), (9, .slice Uv u.length cu), (10, .slice Vv v.length cv2), (12, .slice As S.length cs), (14, .slice Xv x.length cx), (16, .slice Pv p.length cp), (18, .slice Ov o.length co), (19, .int .i64 (minT c)), (21, .int .i64 (totP c o c.length)), (23, .int .i64 i)] ∧ Below w10.heap.size w10 w11)
    ⟨_, _, ⟨0, rfl, Nat.zero_le _, rfl, Below.refl _ _⟩, (by repeat (first | exact trivial | refine And.intro rfl ?_))⟩ ?_
  rintro m ρ w11 ⟨i, rfl, hi, rfl, hb11⟩
  (repeat (first | with_reducible refine W.seq ?_ | with_reducible refine Ops.nil ?_ | with_reducible refine W.region ?_ | refine z_p (kk := ?_)))
  (first | refine W.condD rfl (fun hc => ?_) (fun hc => ?_) | refine W.condE rfl (fun hc => ?_) (fun hc => ?_) | refine W.condN rfl (fun hc => ?_) (fun hc => ?_) | refine W.cond rfl (fun hc => ?_) (fun hc => ?_))
  · have hil : i < c.length := by omega
    have hrS : row S (i : Int) = S.getD i [] := by simp [row]
    have hrc : row c (i : Int) = c.getD i [] := by simp [row]
    have g1 := f1 i hil
    have g2 := f2 i hil
    have g3 := f3 i hil
    have g5 := f5 i hil
    have g6 := f6 i
    have g7 := f7 i
    have g8 := f8 i
    have g9 := f9 i
    have gl := hC.len i hil
    have gab := fab i hil
    have gub := (fub i hil).1
    have gvb := (fub (a.getD i 0).toNat (by omega)).2
    have gcb := fun j => hC.bd i j hil
    have g10 := f10 i hil
    rw [← hrS] at g1 g3 g10
    rw [← hrc] at g5 gl
    simp only [← hrS, ← hrc] at g6 g7 g8 g9 gcb
    (repeat (first | with_reducible refine W.seq ?_ | with_reducible refine W.skip ?_ | with_reducible refine W.block ?_))
    refine W.cut (fun ρ w12 => ρ = [(0, .int .i64 ((n0 + 1 : Nat) : Int)), (7, .slice Ac c.length cc), (8, .slice Av a.length ca), (9, .slice Uv u.length cu), (10, .slice Vv v.length cv2), (12, .slice As S.length cs), (14, .slice Xv x.length cx), (16, .slice Pv p.length cp), (18, .slice Ov o.length co), (19, .int .i64 (minT c)), (21, .int .i64 (totP c o c.length)), (23, .int .i64 i), (196, .bool false)] ∧ Below w10.heap.size w10 w12) ?_ ?_
    · as_aux_lemma =>
        refine W.ordA 99 [(0, 1), (1, 1), (2, 1), (3, 2), (4, 1), (5, 1), (6, 1), (7, 1), (8, 1), (9, 1), (10, 1), (11, 2), (12, 1), (13, 1), (14, 1), (15, 1), (16, 1), (17, 1), (18, 2), (19, 1), (20, 1), (21, 1), (22, 2), (23, 1), (24, 2), (25, 1), (26, 1), (27, 1), (28, 1), (29, 1), (30, 1), (31, 2), (32, 1), (33, 1), (34, 1), (35, 1), (36, 1), (37, 2), (38, 1), (39, 1), (40, 1), (41, 2), (42, 1), (43, 1), (44, 1), (45, 1), (46, 1), (47, 1), (48, 1), (49, 2), (50, 1), (51, 1), (52, 1), (53, 1), (54, 2), (55, 1), (56, 2), (57, 1), (58, 1), (59, 1), (60, 1), (61, 2), (62, 1), (63, 1), (64, 1), (65, 2), (66, 1), (67, 2), (68, 1), (69, 1)] rfl (by kernel_rfl) rfl (by kernel_rfl) (fun _ _ _ h => h) ?_
        rcases f4 i hil with g4 | g4
        · (repeat (first | refine x_p (kk := ?_) | refine x_n (kk := ?_) | refine x_a (kk := ?_) | refine x_l (kk := ?_) | refine x_I (kk := fun _ => ?_) | refine x_K (kk := fun _ => ?_) | refine x_r (kk := fun _ _ _ _ => ?_) | refine x_f (kk := ?_)))
          refine OrdA.nil (fun w12 hb12 => ?_)
          exact W.endl ⟨_, ⟨rfl, Below.via hb11 hb12⟩, (by repeat (first | exact trivial | refine And.intro rfl ?_ | refine And.intro (look_b rfl (by first | rfl | assumption | (simp only [bnf] <;> omega) | (simp only [*, bnf]; done) | fail)) ?_))⟩
        · have g4' : ¬ x.getD i 0 = -1 := by omega
          (repeat (first | refine x_p (kk := ?_) | refine x_a (kk := ?_) | refine x_l (kk := ?_) | refine x_I (kk := fun _ => ?_) | refine x_K (kk := fun _ => ?_) | refine x_r (kk := fun _ _ _ _ => ?_) | refine x_t (kk := ?_) | refine x_f (kk := ?_)))
          refine OrdA.nil (fun w12 hb12 => ?_)
          exact W.endl ⟨_, ⟨rfl, Below.via hb11 hb12⟩, (by repeat (first | exact trivial | refine And.intro rfl ?_ | refine And.intro (look_b rfl (by first | rfl | assumption | (simp only [bnf] <;> omega) | (simp only [*, bnf]; done) | fail)) ?_))⟩
    · clear hb11
      rintro ρ w12 ⟨rfl, hb12⟩
      skip
      refine W.condF rfl (by first | rfl | assumption | (simp only [bnf] <;> omega) | (simp only [*, bnf]; done) | fail) ?_
      (repeat (first | with_reducible refine W.seq ?_ | with_reducible refine Ops.nil ?_ | with_reducible refine W.region ?_ | refine z_p (kk := ?_) | with_reducible refine W.skip ?_ | with_reducible refine W.block ?_))
      refine W.loop (fun m ρ w13 => ∃ (j : Nat), m = c.length - j ∧ j ≤ c.length ∧ ρ = [(0, .int .i64 ((n0 + 1 : Nat) : Int)), (7, .slice Ac c.length cc), (8, .slice Av a.length ca), (9, .slice Uv u.length cu), (10, .slice Vv v.length cv2), (12, .slice As S.length cs), (14, .slice Xv x.length cx), (16, .slice Pv p.length cp), (18, .slice Ov o.length co), (19, .int .i64 (minT c)), (21, .int .i64 (totP c o c.length)), (23, .int .i64 i), (24, .int .i64 (ct (zer (row S i)) j : Nat)), (25, .int .i64 j)] ∧ Below w10.heap.size w10 w13)
        ⟨_, _, ⟨0, rfl, Nat.zero_le _, rfl, hb12⟩, (by repeat (first | exact trivial | refine And.intro rfl ?_))⟩ ?_
      clear hb12
      rintro m ρ w13 ⟨j, rfl, hj, rfl, hb13⟩
      have hcj := ct_le (zer (row S i)) j
      (repeat (first | with_reducible refine W.seq ?_ | with_reducible refine Ops.nil ?_ | with_reducible refine W.region ?_ | refine z_p (kk := ?_)))
      (first | refine W.condD rfl (fun hc => ?_) (fun hc => ?_) | refine W.condE rfl (fun hc => ?_) (fun hc => ?_) | refine W.condN rfl (fun hc => ?_) (fun hc => ?_) | refine W.cond rfl (fun hc => ?_) (fun hc => ?_))
      · have hjl : j < c.length := by omega
        have k6 := g6 j hil hjl
        have k7 := g7 j hil hjl
        have k8 := g8 j hil hjl
        have k9 := g9 j hil hjl
        have kub := (fub i hil).1
        have kvb := (fub j hjl).2
        have kcb := gcb j hjl
        have hcs : ct (zer (row S i)) (j + 1) = ct (zer (row S i)) j + if zer (row S i) j = true then 1 else 0 := rfl
        (repeat (first | with_reducible refine W.seq ?_ | with_reducible refine Ops.nil ?_ | with_reducible refine W.region ?_ | refine z_p (kk := ?_) | with_reducible refine W.skip ?_ | with_reducible refine W.block ?_ | refine z_I (kk := fun _ => ?_) | refine z_r (kk := fun _ _ _ _ => ?_)))
        refine W.cut (fun ρ w14 => ρ = [(0, .int .i64 ((n0 + 1 : Nat) : Int)), (7, .slice Ac c.length cc), (8, .slice Av a.length ca), (9, .slice Uv u.length cu), (10, .slice Vv v.length cv2), (12, .slice As S.length cs), (14, .slice Xv x.length cx), (16, .slice Pv p.length cp), (18, .slice Ov o.length co), (19, .int .i64 (minT c)), (21, .int .i64 (totP c o c.length)), (23, .int .i64 i), (24, .int .i64 (ct (zer (row S i)) (j + 1) : Nat)), (25, .int .i64 j)] ∧ Below w10.heap.size w10 w14) ?_ ?_
        · by_cases hz : (row S (i : Int)).getD j 0 = 0
          · have k6' := k6 hz
            rw [show zer (row S i) j = true from decide_eq_true hz, if_pos rfl] at hcs
            refine W.condT rfl (by first | rfl | assumption | (simp only [bnf] <;> omega) | (simp only [*, bnf]; done) | fail) ?_
            (repeat (first | with_reducible refine W.seq ?_ | with_reducible refine Ops.nil ?_ | with_reducible refine W.region ?_ | refine z_p (kk := ?_) | refine z_a (kk := ?_)))
            refine W.ordA 99 [(0, 1), (1, 1), (2, 1), (3, 2), (4, 1), (5, 1), (6, 1), (7, 2), (8, 1), (9, 1), (10, 1), (11, 1), (12, 2), (13, 1), (14, 1), (15, 2), (16, 1)] rfl (by kernel_rfl) rfl (by kernel_rfl) (fun _ _ _ h => h) ?_
            (repeat (first | refine x_p (kk := ?_) | refine x_a (kk := ?_) | refine x_I (kk := fun _ => ?_) | refine x_r (kk := fun _ _ _ _ => ?_)))
            refine OrdA.nil (fun w14 hb14 => ?_)
            skip
            refine W.condF rfl (by first | rfl | assumption | (simp only [bnf] <;> omega) | (simp only [*, bnf]; done) | fail) ?_
            (repeat (first | with_reducible refine W.skip ?_))
            refine W.endl ⟨_, ⟨rfl, Below.via hb13 hb14⟩, ?_⟩
            rw [hcs]
            exact (by repeat (first | exact trivial | refine And.intro rfl ?_))
          · rw [show zer (row S i) j = false from decide_eq_false hz, if_neg (by simp)] at hcs
            refine W.condF rfl (by first | rfl | assumption | (simp only [bnf] <;> omega) | (simp only [*, bnf]; done) | fail) ?_
            (repeat (first | with_reducible refine W.skip ?_))
            refine W.endl ⟨_, ⟨rfl, hb13⟩, ?_⟩
            rw [hcs]
            exact (by repeat (first | exact trivial | refine And.intro rfl ?_))
        · clear hb13
          rintro ρ w14 ⟨rfl, hb14⟩
          (repeat (first | with_reducible refine W.seq ?_))
          refine W.cut (fun ρ w15 => ρ = [(0, .int .i64 ((n0 + 1 : Nat) : Int)), (7, .slice Ac c.length cc), (8, .slice Av a.length ca), (9, .slice Uv u.length cu), (10, .slice Vv v.length cv2), (12, .slice As S.length cs), (14, .slice Xv x.length cx), (16, .slice Pv p.length cp), (18, .slice Ov o.length co), (19, .int .i64 (minT c)), (21, .int .i64 (totP c o c.length)), (23, .int .i64 i), (24, .int .i64 (ct (zer (row S i)) (j + 1) : Nat)), (25, .int .i64 j), (284, .bool false)] ∧ Below w10.heap.size w10 w15) ?_ ?_
          · as_aux_lemma =>
              refine W.ordA 99 [(0, 1), (1, 1), (2, 1), (3, 2), (4, 1), (5, 1), (6, 2), (7, 1), (8, 1), (9, 1), (10, 1), (11, 1), (12, 2), (13, 1), (14, 1), (15, 2), (16, 1), (17, 1), (18, 1), (19, 2), (20, 1), (21, 1), (22, 2), (23, 1), (24, 1), (25, 1), (26, 2), (27, 1), (28, 1), (29, 1), (30, 1), (31, 2), (32, 1), (33, 1), (34, 1), (35, 1), (36, 1), (37, 1), (38, 1), (39, 2), (40, 1), (41, 1), (42, 1), (43, 1), (44, 1), (45, 1), (46, 2), (47, 1), (48, 1), (49, 2), (50, 1), (51, 1), (52, 1), (53, 1), (54, 1), (55, 1)] rfl (by kernel_rfl) rfl (by kernel_rfl) (fun _ _ _ h => h) ?_
              by_cases ho : o.getD i 0 = (j : Int)
              · have k9' := k9 ho
                (repeat (first | refine x_p (kk := ?_) | refine x_a (kk := ?_) | refine x_I (kk := fun _ => ?_) | refine x_r (kk := fun _ _ _ _ => ?_) | refine x_t (kk := ?_) | refine x_f (kk := ?_)))
                refine OrdA.nil (fun w15 hb15 => ?_)
                exact W.endl ⟨_, ⟨rfl, Below.via hb14 hb15⟩, (by repeat (first | exact trivial | refine And.intro rfl ?_ | refine And.intro (look_b rfl (by first | rfl | assumption | (simp only [bnf] <;> omega) | (simp only [*, bnf]; done) | fail)) ?_))⟩
              · (repeat (first | refine x_p (kk := ?_) | refine x_n (kk := ?_) | refine x_a (kk := ?_) | refine x_I (kk := fun _ => ?_) | refine x_r (kk := fun _ _ _ _ => ?_) | refine x_f (kk := ?_)))
                refine OrdA.nil (fun w15 hb15 => ?_)
                exact W.endl ⟨_, ⟨rfl, Below.via hb14 hb15⟩, (by repeat (first | exact trivial | refine And.intro rfl ?_ | refine And.intro (look_b rfl (by first | rfl | assumption | (simp only [bnf] <;> omega) | (simp only [*, bnf]; done) | fail)) ?_))⟩
          · clear hb14
            rintro ρ w15 ⟨rfl, hb15⟩
            skip
            refine W.condF rfl (by first | rfl | assumption | (simp only [bnf] <;> omega) | (simp only [*, bnf]; done) | fail) ?_
            (repeat (first | with_reducible refine Ops.nil ?_ | with_reducible refine W.region ?_ | refine z_p (kk := ?_) | refine z_a (kk := ?_) | with_reducible refine W.skip ?_ | with_reducible refine W.endb ?_))
            exact W.endl ⟨_, _, ⟨⟨j + 1, rfl, by omega, rfl, hb15⟩, by omega⟩, (by repeat (first | exact trivial | refine And.intro rfl ?_))⟩
      · have hjl : j = c.length := by omega
        subst hjl
        (repeat (first | with_reducible refine W.seq ?_ | with_reducible refine Ops.nil ?_ | with_reducible refine W.region ?_ | refine z_p (kk := ?_) | refine W.exit rfl ?_ | refine z_E (kk := ?_) | refine z_I (kk := fun _ => ?_)))
        refine W.condF rfl ?_ ?_
        · by_cases hx1 : x.getD i 0 = -1
          · have := g10.2 hx1
            rw [hx1, decide_eq_true (show (ct (zer (row S i)) c.length : Int) > 1 by omega)]
            rfl
          · have : ¬ 1 < ct (zer (row S i)) c.length := fun h => hx1 (g10.1 h)
            rw [decide_eq_false (show ¬ (ct (zer (row S i)) c.length : Int) > 1 by omega), show (x.getD i 0 == -1) = false by simpa using hx1]
            rfl
        · (repeat (first | with_reducible refine Ops.nil ?_ | with_reducible refine W.region ?_ | refine z_p (kk := ?_) | refine z_a (kk := ?_) | with_reducible refine W.skip ?_ | with_reducible refine W.endb ?_))
          exact W.endl ⟨_, _, ⟨⟨i + 1, rfl, by omega, rfl, hb13⟩, by omega⟩, (by repeat (first | exact trivial | refine And.intro rfl ?_))⟩
  · have hil : i = c.length := by omega
    (repeat (first | with_reducible refine W.seq ?_ | with_reducible refine W.region ?_ | refine W.exit rfl ?_))
    refine Ops.call rfl rfl rfl rfl rfl (awake_c _) (fun r w12 hR => ?_)
    obtain ⟨rfl, hb12⟩ := hR
    (repeat (first | with_reducible refine Ops.nil ?_ | refine z_p (kk := ?_)))
    exact W.fret rfl ⟨rfl, Below.via hb010 (Below.via hb11 hb12)⟩
end Go.Proofs.Ytehjmakiljhjdaa
namespace Go.Proofs.Ytehjmakiljhjdaa.VW
open Go Go.RowKit
theorem run_res1 {P : Program} [Tab P] {n : Nat} {ρ : E} {w : World} {fn : Func} {a t b t' : Nat} {v : Value} (hres : fn.results = #[.cell a t]) (hl : look ρ a = some (.pointer (some ⟨b, 0, none⟩))) (hs : tyS P t = some 1) (hg : tyAgg P t = some false)
    (hb : Blk w b #[v] t') : ∀ act, Rep n act ρ → (results fn act.tmps).run P w = .ok v w := by
  intro act hr
  have hsl := hr.slot a _ hl
  rw [Array.getD_eq_getD_getElem?] at hsl
  have hc : w.cell? ⟨b, 0, none⟩ = some v := hb.cell rfl
  simp [results, hres, hsl, asAddr, loadVar, run_isAgg hg, load, Sem.run, hc]
end Go.Proofs.Ytehjmakiljhjdaa.VW
namespace Go.Proofs.Ytehjmakiljhjdaa
open Go Go.RowKit Go.Proofs.Ytehjmakiljhjdaa.VW
attribute [local irreducible] W Ops OrdA VW.Ord OrdX Wi OpsI
def badP (x : Int) : Bool := !inR x (-1000000) 1000000
theorem badP_c (x : Int) (w : World) : Calls Try.prog 67 #[.int .i64 x] w (Ret fun v w' => v = .bool (badP x) ∧ Below w.heap.size w w') := by
  refine calls_W (vs := [_]) Try.func67 rfl (by kernel_rfl) rfl ?_
  (repeat (first | with_reducible refine W.seq ?_ | with_reducible refine Ops.nil ?_ | with_reducible refine W.region ?_ | refine z_p (kk := ?_)))
  refine Ops.callS rfl rfl rfl rfl rfl (within_c _ _ _ _) ?_
  (repeat (first | with_reducible refine Ops.nil ?_ | refine z_p (kk := ?_)))
  exact W.fret rfl ⟨rfl, Below.refl _ _⟩
theorem any_badP {u : List Int} : u.any badP = false ↔ ∀ i, i < u.length → Bd u i := by
  rw [List.any_eq_false]
  constructor
  · intro h i hi
    have := h _ (getD_memI hi)
    unfold badP inR at this
    unfold Bd
    simp only [Bool.not_eq_true', Bool.and_eq_false_iff, decide_eq_false_iff_not, not_or, Classical.not_not] at this
    exact this
  · intro h x hx
    obtain ⟨i, hi, rfl⟩ := mem_getDI hx
    have := h i hi
    unfold Bd at this
    unfold badP inR
    simp only [Bool.not_eq_true', Bool.and_eq_false_iff, decide_eq_false_iff_not, not_or, Classical.not_not]
    exact this
set_option maxHeartbeats 4000000 in
theorem Check_c {w : World} {cv av uv vv : Value} {c : List (List Int)} {a u v : List Int} (hM : RowsM w cv c) (ha : Arg w av a) (hu : SlI w uv u) (hv : SlI w vv v) :
    Calls Try.prog 40 #[cv, av, uv, vv] w (Ret fun r w' => r = .int .i64 (if costsB c = true then (if Prov c a u v then 0 else 10) else 2) ∧ Below w.heap.size w w') := by
  have hul := Sl.len hu
  have hvl := Sl.len hv
  have hal := Sl.len ha.1
  obtain ⟨Ac, cc, rfl⟩ := hM.sl
  obtain ⟨Aa, ca, rfl⟩ := Sl.shape ha.1
  obtain ⟨Au, cu, rfl⟩ := Sl.shape hu
  obtain ⟨Av, cv, rfl⟩ := Sl.shape hv
  refine calls_W (vs := [_, _, _, _]) Try.func40 rfl (by kernel_rfl) rfl ?_
  (repeat (first | with_reducible refine W.seq ?_ | with_reducible refine W.region ?_))
  refine Ops.box rfl rfl rfl rfl (fun w1 b4 hM4 => ?_)
  refine Ops.box rfl rfl rfl rfl (fun w2 b6 hM6 => ?_)
  refine Ops.box rfl rfl rfl rfl (fun w3 b7 hM7 => ?_)
  refine Ops.alloc rfl rfl rfl rfl (fun w4 b8 hM8 => ?_)
  have e4 := hM4.r_eq
  have e6 := hM6.r_eq
  have e7 := hM7.r_eq
  have e8 := hM8.r_eq
  have s4 := hM4.size
  have s6 := hM6.size
  have s7 := hM7.size
  have s8 := hM8.size
  have h14 := Mk.bel hM4
  have h26 := Mk.bel hM6
  have h37 := Mk.bel hM7
  have h48 := Mk.bel hM8
  have hb : Below w.heap.size w w4 := Below.via h14 (Below.via h26 (Below.via h37 h48))
  have B4 : Blk w4 b4 #[.slice Ac c.length cc] 22 := Blk.kp hM4.at_ (Kp.of_below (S := fun _ => False) (Below.via h26 (Below.via h37 h48))) (fun e => e)
  have B6 : Blk w4 b6 #[.slice Au u.length cu] 23 := Blk.kp hM6.at_ (Kp.of_below (S := fun _ => False) (Below.via h37 h48)) (fun e => e)
  have B7 : Blk w4 b7 #[.slice Av v.length cv] 23 := Blk.kp hM7.at_ (Kp.of_below (S := fun _ => False) h48) (fun e => e)
  have B8 : Blk w4 b8 #[.int .i64 0] 26 := hM8.at_
  have hM' := hM.below hb
  have ha' := ha.below hb
  have hu' := Sl.below hu hb
  have hv' := Sl.below hv hb
  clear hM4 hM6 hM7 hM8 hM ha hu hv
  (repeat (first | with_reducible refine W.seq ?_ | with_reducible refine Ops.nil ?_ | with_reducible refine W.region ?_ | refine z_d (kk := ?_)))
  refine Ops.call rfl rfl rfl rfl rfl (areCosts_c hM') (fun r w5 hR => ?_)
  obtain ⟨rfl, hb5⟩ := hR
  have B85 : Blk w5 b8 #[.int .i64 0] 26 := B8.kp (Kp.of_below (S := fun _ => False) hb5) (fun e => e)
  have hb05 := Below.via hb hb5
  cases hc : costsB c with
  | false =>
    (repeat (first | with_reducible refine Ops.nil ?_ | refine z_p (kk := ?_)))
    refine W.condT rfl (by first | rfl | assumption | (simp only [bnf] <;> omega) | (simp only [*, bnf]; done) | fail) ?_
    (repeat (first | with_reducible refine W.seq ?_ | with_reducible refine W.region ?_))
    refine Ops.st rfl rfl rfl rfl rfl rfl rfl B85 (by simp) (fun w6 hu6 => ?_)
    have B86 : Blk w6 b8 #[.int .i64 2] 26 := by simpa using hu6.blk
    (repeat (first | with_reducible refine Ops.nil ?_))
    refine W.ret ⟨_, run_res1 rfl rfl rfl rfl B86, ?_, Below.put hb05 hu6.kp (fun i e => by omega)⟩
    rw [if_neg (by simp)]
  | true =>
    have hC := costs_iff.1 hc
    have hn7 := hC.n7
    rw [if_pos rfl]
    have bad10 : ∀ {k : List It} {ρ : E} {wx wy : World} {ds : List Deferred}, ¬ Prov c a u v → Below w.heap.size w wx → VW.look ρ 8 = some (.pointer (some ⟨b8, 0, none⟩)) → Upd wx wy b8 #[.int .i64 10] 26 → VW.W Try.prog Try.f40.ntmps ds (.code .ret :: k) (Fin Try.prog Try.f40 fun r w' => r = .int .i64 (if Prov c a u v then 0 else 10) ∧ Below w.heap.size w w') ρ wy := fun hno hbx hl hU => by
      refine W.ret ⟨_, run_res1 rfl hl rfl rfl hU.blk, ?_, Below.put hbx hU.kp (fun i e => by omega)⟩
      rw [if_neg hno]
    have hM5 := hM'.below hb5
    have ha5 := ha'.below hb5
    have hu5 := Sl.below hu' hb5
    have hv5 := Sl.below hv' hb5
    (repeat (first | with_reducible refine Ops.nil ?_ | refine z_p (kk := ?_)))
    refine W.condF rfl (by first | rfl | assumption | (simp only [bnf] <;> omega) | (simp only [*, bnf]; done) | fail) ?_
    (repeat (first | with_reducible refine W.seq ?_ | with_reducible refine Ops.nil ?_ | with_reducible refine W.region ?_ | refine z_p (kk := ?_) | with_reducible refine W.skip ?_ | refine z_D (kk := ?_)))
    refine Ops.call rfl rfl rfl rfl rfl (isAsg_c hM5 hn7 ha5) (fun r w6 hR => ?_)
    obtain ⟨rfl, rfl⟩ := hR
    by_cases hA : Asg a c.length
    · rw [decide_eq_true hA]
      by_cases hnu : u.length = c.length
      · by_cases hnv : v.length = c.length
        · (repeat (first | refine z_p (kk := ?_) | refine z_y (kk := ?_) | refine z_l (kk := ?_) | refine z_D (kk := ?_) | refine z_h (kk := ?_)))
          refine Ops.call rfl rfl rfl rfl rfl (containsF_c (fc := 67) (first := []) (cap := []) (p := badP) hu5 rfl rfl (fun x w' _ => badP_c x w')) (fun r w7 hR => ?_)
          obtain ⟨rfl, hb7⟩ := hR
          have B87 : Blk w7 b8 #[.int .i64 0] 26 := B85.kp (Kp.of_below (S := fun _ => False) hb7) (fun e => e)
          have hb07 := Below.via hb05 hb7
          have hb47 := Below.via hb5 hb7
          cases hau : u.any badP with
          | true =>
            have hno : ¬ Prov c a u v := fun h => by
              have := any_badP.2 (fun i hi => (h.2.2.2.1 i (by omega)).1)
              rw [hau] at this; cases this
            (repeat (first | with_reducible refine Ops.nil ?_ | refine z_p (kk := ?_) | refine z_n (kk := ?_)))
            refine W.condT rfl (by first | rfl | assumption | (simp only [bnf] <;> omega) | (simp only [*, bnf]; done) | fail) ?_
            (repeat (first | with_reducible refine W.seq ?_ | with_reducible refine W.region ?_))
            refine Ops.st rfl rfl rfl rfl rfl rfl rfl B87 (by simp) (fun w9 hu9 => ?_)
            (repeat (first | with_reducible refine Ops.nil ?_))
            exact bad10 hno hb07 rfl (by simpa using hu9)
          | false =>
            (repeat (first | refine z_p (kk := ?_) | refine z_y (kk := ?_) | refine z_D (kk := ?_)))
            refine Ops.call rfl rfl rfl rfl rfl (containsF_c (fc := 67) (first := []) (cap := []) (p := badP) (Sl.below hv5 hb7) rfl rfl (fun x w' _ => badP_c x w')) (fun r w8 hR => ?_)
            obtain ⟨rfl, hb8⟩ := hR
            have B88 : Blk w8 b8 #[.int .i64 0] 26 := B87.kp (Kp.of_below (S := fun _ => False) hb8) (fun e => e)
            have hb08 := Below.via hb07 hb8
            have hb48 := Below.via hb47 hb8
            cases hav : v.any badP with
            | true =>
              have hno : ¬ Prov c a u v := fun h => by
                have := any_badP.2 (fun i hi => (h.2.2.2.1 i (by omega)).2)
                rw [hav] at this; cases this
              (repeat (first | with_reducible refine Ops.nil ?_ | refine z_p (kk := ?_)))
              refine W.condT rfl (by first | rfl | assumption | (simp only [bnf] <;> omega) | (simp only [*, bnf]; done) | fail) ?_
              (repeat (first | with_reducible refine W.seq ?_ | with_reducible refine W.region ?_))
              refine Ops.st rfl rfl rfl rfl rfl rfl rfl B88 (by simp) (fun w9 hu9 => ?_)
              (repeat (first | with_reducible refine Ops.nil ?_))
              exact bad10 hno hb08 rfl (by simpa using hu9)
            | false =>
              have hbu := any_badP.1 hau
              have hbv := any_badP.1 hav
              (repeat (first | with_reducible refine Ops.nil ?_ | refine z_p (kk := ?_)))
              refine W.condF rfl (by first | rfl | assumption | (simp only [bnf] <;> omega) | (simp only [*, bnf]; done) | fail) ?_
              refine W.skip ?_
              refine W.toJ (JW.seq (by exact rfl) ?_)
              (repeat (first | with_reducible refine W.region ?_ | refine z_D (kk := ?_)))
              refine Ops.call rfl rfl rfl rfl rfl pairs_c (fun rv wE hR => ?_)
              obtain ⟨b89, rfl, hB89, hge89, hlE⟩ := hR
              have hb0E := Below.via hb08 hlE
              have hb4E := Below.via hb48 hlE
              have hb5E := Below.via (Below.via hb7 hb8) hlE
              have B8E : Blk wE b8 #[.int .i64 0] 26 := B88.kp (Kp.of_below (S := fun _ => False) hlE) (fun e => e)
              have B4E : Blk wE b4 #[.slice Ac c.length cc] 22 := B4.kp (Kp.of_below (S := fun _ => False) hb4E) (fun e => e)
              have B6E : Blk wE b6 #[.slice Au u.length cu] 23 := B6.kp (Kp.of_below (S := fun _ => False) hb4E) (fun e => e)
              have B7E : Blk wE b7 #[.slice Av v.length cv] 23 := B7.kp (Kp.of_below (S := fun _ => False) hb4E) (fun e => e)
              have hB89' : Blk wE b89 #[.slice Ac c.length cc] 71 := hB89
              have hME := hM'.below hb4E
              have haE := ha'.below hb4E
              have huE := Sl.below hu' hb4E
              have hvE := Sl.below hv' hb4E
              have s8E := B8E.lt
              have s89E := hB89'.lt
              have hbE5 : Below wE.heap.size wE wE := Below.refl _ _
              clear B4 B6 B7 B8 B85 B87 B88 hM' ha' hu' hv' hM5 ha5 hu5 hv5
              refine Ops.nil (W.endl ?_)
              refine JW.sub (ρ' := [(1, .slice Aa a.length ca), (4, .pointer (some ⟨b4, 0, none⟩)), (6, .pointer (some ⟨b6, 0, none⟩)), (7, .pointer (some ⟨b7, 0, none⟩)), (8, .pointer (some ⟨b8, 0, none⟩)), (46, .func (.func 89) #[] #[.pointer (some ⟨b89, 0, none⟩)])]) (by repeat (first | exact trivial | refine And.intro rfl ?_)) ?_
              refine JW.pairs (b1 := b89) (n := c.length) (A := Ac) (cap := cc) (I := fun i j W => Below wE.heap.size wE W ∧ ∀ p q, p < c.length → q < c.length → (p < i ∨ (p = i ∧ q < j)) → u.getD p 0 + v.getD q 0 ≤ ent c p q)
                (K := fun W => Kp (fun k => k = b8) wE W ∧ Blk W b8 #[.int .i64 10] 26 ∧ ¬ Prov c a u v) (by omega) rfl (by exact rfl) (by exact rfl) (by exact rfl) (fun i j W h => hB89'.kp (Kp.of_below (S := fun _ => False) h.1) (fun e => e)) (fun i W hi h => ⟨h.1, fun p q hp hq hpq => h.2 p q hp hq (by omega)⟩)
                (fun i j W W' h hk => ⟨Below.put h.1 hk (fun k e => by omega), h.2⟩) (fun W W' h hk => ⟨?_, h.2.1.kp hk (fun e => by omega), h.2.2⟩) ⟨hbE5, fun p q hp hq h => by omega⟩ (fun L i j wp hL h hi hj hW => ?_) (fun D w9 hD h hdf => ?_) (fun D w9 hD h hdf => ?_)
              · exact (h.1.trans hk).mono (fun k hk2 e => by omega)
              · refine Wi.seq (Wi.regionN rfl rfl ?_)
                (repeat (first | with_reducible refine Ops.nil ?_ | refine z_p (kk := ?_)))
                refine W.endl ?_
                refine Wi.regionN rfl rfl ?_
                (repeat (first | with_reducible refine Ops.nil ?_ | refine z_p (kk := ?_)))
                refine W.endl ⟨rfl, rfl, fun wq h' hq => ?_⟩
                have hbq := h'.1
                have hcl := hC.len i hi
                have hrow : row c (i : Int) = c.getD i [] := by simp [row]
                have hcb := hC.bd i j hi hj
                have hbu1 := hbu i (by omega)
                have hbv1 := hbv j (by omega)
                unfold Bd at hbu1 hbv1
                have hent : (row c (i : Int)).getD j 0 = ent c i j := by rw [hrow]; rfl
                rw [← hrow] at hcl hcb
                have hbqq : Below wq.heap.size wq wq := Below.refl _ _
                refine Wi.block (Wi.seq (Wi.ordA 99 [(0, 2), (1, 1), (2, 1), (3, 2), (4, 2), (5, 1), (6, 1), (7, 2), (8, 1), (9, 2), (10, 1), (11, 1), (12, 2), (13, 1), (14, 1), (15, 2), (16, 1)] rfl (by kernel_rfl) (by kernel_rfl) (by kernel_rfl) rfl (by kernel_rfl) ?_))
                (repeat (first | refine x_p (kk := ?_) | refine x_a (kk := ?_) | refine x_I (kk := fun _ => ?_) | refine x_r (kk := fun _ _ _ _ => ?_) | refine x_D (kk := ?_)))
                refine OrdA.nil (fun wr hbr => W.endl ?_)
                have hbr' : Kp (fun k => k ≠ wE.heap.size ∧ k ≠ wE.heap.size + 1) wq wr := Kp.of_below hbr
                have hbEr : Below wE.heap.size wE wr := Below.via hbq hbr
                refine Wi.cond rfl (fun hc => ?_) (fun hc => Wi.skip ⟨hbr', .inl ⟨rfl, hbEr, fun p q hp hq hpq => ?_⟩⟩)
                · have hgt : u.getD i 0 + v.getD j 0 > ent c i j := by rw [← hent]; simpa using hc
                  refine Wi.seq (Wi.regionN rfl rfl ?_)
                  refine Ops.st rfl rfl rfl rfl rfl rfl rfl (B8E.kp (Kp.of_below (S := fun _ => False) hbEr) (fun e => e)) (by simp) (fun ws hus => Ops.nil (W.endl ?_))
                  refine Wi.ret ⟨(hbr'.trans hus.kp).mono (fun k _ e => by rcases e with e | e; exact e; omega), .inr ⟨rfl, ((Kp.of_below (S := fun k => k = b8) hbEr).trans hus.kp).mono (fun k _ e => by rcases e with e | e <;> exact e), by simpa using hus.blk, fun h => ?_⟩⟩
                  have := h.2.2.2.2.1 i hi j hj
                  omega
                · by_cases e : p = i ∧ q = j
                  · rw [e.1, e.2, ← hent]
                    have hle : ¬ (u.getD i 0 + v.getD j 0 > (row c (i : Int)).getD j 0) := by simpa using hc
                    omega
                  · exact h'.2 p q hp hq (by omega)
              · obtain ⟨hbD, hall⟩ := h
                have hsD := hbD.size
                have hDlt : D < w9.heap.size := (Array.getElem?_eq_some_iff.1 hdf).1
                have hME9 := hME.below hbD
                have haE9 := haE.below hbD
                have huE9 := Sl.below huE hbD
                have hvE9 := Sl.below hvE hbD
                have B8D : Blk w9 b8 #[.int .i64 0] 26 := B8E.kp (Kp.of_below (S := fun _ => False) hbD) (fun e => e)
                have B4D : Blk w9 b4 #[.slice Ac c.length cc] 22 := B4E.kp (Kp.of_below (S := fun _ => False) hbD) (fun e => e)
                have B6D : Blk w9 b6 #[.slice Au u.length cu] 23 := B6E.kp (Kp.of_below (S := fun _ => False) hbD) (fun e => e)
                have B7D : Blk w9 b7 #[.slice Av v.length cv] 23 := B7E.kp (Kp.of_below (S := fun _ => False) hbD) (fun e => e)
                have hb0D := Below.via hb0E hbD
                have hb99 : Below w9.heap.size w9 w9 := Below.refl _ _
                clear B4E B6E B7E B8E
                (repeat (first | with_reducible refine W.seq ?_ | with_reducible refine Ops.nil ?_ | with_reducible refine W.region ?_ | refine z_p (kk := ?_) | with_reducible refine W.block ?_ | refine z_l (kk := ?_) | refine z_d (kk := ?_)))
                refine W.loop (fun m ρ w10 => ∃ (i : Nat), m = u.length - i ∧ i ≤ u.length ∧ ρ = [(1, .slice Aa a.length ca), (4, .pointer (some ⟨b4, 0, none⟩)), (6, .pointer (some ⟨b6, 0, none⟩)), (7, .pointer (some ⟨b7, 0, none⟩)), (8, .pointer (some ⟨b8, 0, none⟩)), (12, .int .i64 (sumP u v i)), (67, .int .i64 u.length), (68, .int .i64 i)] ∧ Below w9.heap.size w9 w10)
                  ⟨_, _, ⟨0, rfl, Nat.zero_le _, rfl, hb99⟩, (by repeat (first | exact trivial | refine And.intro rfl ?_))⟩ ?_
                clear hb99
                rintro m ρ w10 ⟨i, rfl, hi, rfl, hb10⟩
                have hsb := sumP_bd (u := u) (v := v) (n := c.length) (fun i hi => ⟨hbu i (by omega), hbv i (by omega)⟩) i (by omega)
                (repeat (first | with_reducible refine W.seq ?_ | with_reducible refine Ops.nil ?_ | with_reducible refine W.region ?_ | refine z_p (kk := ?_)))
                (first | refine W.condD rfl (fun hc => ?_) (fun hc => ?_) | refine W.condE rfl (fun hc => ?_) (fun hc => ?_) | refine W.condN rfl (fun hc => ?_) (fun hc => ?_) | refine W.cond rfl (fun hc => ?_) (fun hc => ?_))
                · have hil : i < u.length := by omega
                  have hbu1 := hbu i (by omega)
                  have hbv1 := hbv i (by omega)
                  unfold Bd at hbu1 hbv1
                  (repeat (first | with_reducible refine W.seq ?_ | with_reducible refine Ops.nil ?_ | with_reducible refine W.region ?_ | refine z_p (kk := ?_) | with_reducible refine W.skip ?_ | with_reducible refine W.block ?_))
                  refine W.ordA 99 [(0, 1), (1, 2), (2, 1), (3, 1), (4, 2), (5, 2), (6, 1), (7, 1), (8, 2), (9, 1), (10, 1), (11, 1)] rfl (by kernel_rfl) rfl (by kernel_rfl) (fun _ _ _ h => by cases h.1) ?_
                  (repeat (first | refine x_p (kk := ?_) | refine x_a (kk := ?_) | refine x_I (kk := fun _ => ?_) | refine x_D (kk := ?_)))
                  refine OrdA.nil (fun w11 hb11 => ?_)
                  have hsum : sumP u v i + (u.getD i 0 + v.getD i 0) = sumP u v (i + 1) := by simp only [sumP]; omega
                  (repeat (first | with_reducible refine Ops.nil ?_ | with_reducible refine W.region ?_ | refine z_p (kk := ?_) | refine z_a (kk := ?_) | with_reducible refine W.endb ?_))
                  refine W.endl ⟨_, _, ⟨⟨i + 1, rfl, by omega, rfl, Below.via hb10 hb11⟩, by omega⟩, ?_⟩
                  rw [← hsum]
                  exact (by repeat (first | exact trivial | refine And.intro rfl ?_))
                · have hil : i = c.length := by omega
                  subst hil
                  have hb010 := Below.via hb0D hb10
                  have B810 : Blk w10 b8 #[.int .i64 0] 26 := B8D.kp (Kp.of_below (S := fun _ => False) hb10) (fun e => e)
                  have hdf10 : w10.heap[D]? = some (.deferred (some [])) := (hb10.block D hDlt).trans hdf
                  have hDb8 : ¬ D = b8 := by omega
                  (repeat (first | with_reducible refine W.seq ?_ | with_reducible refine W.region ?_ | refine z_p (kk := ?_) | refine W.exit rfl ?_ | refine z_D (kk := ?_)))
                  refine Ops.call rfl rfl rfl rfl rfl (total_c (hME9.below hb10) hC (Sl.below haE9.1 hb10) (fun i hi => (hA.2 i hi).1) (by rw [hA.1]; exact Nat.le_refl _)) (fun r w11 hR => ?_)
                  obtain ⟨rfl, rfl⟩ := hR
                  rw [hA.1]
                  by_cases hs : sumP u v c.length = totP c a c.length
                  · have hP : Prov c a u v := ⟨hA, hnu, hnv, fun i hi => ⟨hbu i (by omega), hbv i (by omega)⟩, fun i hi j hj => hall i j hi hj (.inl hi), hs⟩
                    (repeat (first | with_reducible refine Ops.nil ?_ | refine z_p (kk := ?_)))
                    refine W.condF rfl (by first | rfl | assumption | (simp only [bnf] <;> omega) | (simp only [*, bnf]; done) | fail) ?_
                    (repeat (first | with_reducible refine W.seq ?_ | with_reducible refine W.region ?_ | with_reducible refine W.skip ?_))
                    refine Ops.st rfl rfl rfl rfl rfl rfl rfl B810 (by simp) (fun w12 hu12 => ?_)
                    have B812 : Blk w12 b8 #[.int .i64 0] 26 := by simpa using hu12.blk
                    (repeat (first | with_reducible refine Ops.nil ?_))
                    refine W.ret ⟨rfl, at_kp hdf10 hu12.kp hDb8, _, run_res1 rfl rfl rfl rfl (B812.kp (kp_putObj (r := D) (.deferred none)) (fun e => hDb8 e.symm)), ?_, ?_⟩
                    · rw [if_pos hP]
                    · exact Below.put (Below.put hb010 hu12.kp (fun k e => by omega)) (kp_putObj (r := D) (.deferred none)) (fun k e => by have := hb0E.size; omega)
                  · (repeat (first | with_reducible refine Ops.nil ?_ | refine z_p (kk := ?_)))
                    refine W.condT rfl (by first | rfl | assumption | (simp only [bnf] <;> omega) | (simp only [*, bnf]; done) | fail) ?_
                    (repeat (first | with_reducible refine W.seq ?_ | with_reducible refine W.region ?_))
                    refine Ops.st rfl rfl rfl rfl rfl rfl rfl B810 (by simp) (fun w12 hu12 => ?_)
                    have B812 : Blk w12 b8 #[.int .i64 10] 26 := by simpa using hu12.blk
                    (repeat (first | with_reducible refine Ops.nil ?_))
                    refine W.ret ⟨rfl, at_kp hdf10 hu12.kp hDb8, _, run_res1 rfl rfl rfl rfl (B812.kp (kp_putObj (r := D) (.deferred none)) (fun e => hDb8 e.symm)), ?_, ?_⟩
                    · rw [if_neg (fun h => hs h.2.2.2.2.2)]
                    · exact Below.put (Below.put hb010 hu12.kp (fun k e => by omega)) (kp_putObj (r := D) (.deferred none)) (fun k e => by have := hb0E.size; omega)
              · obtain ⟨hk, hB, hno⟩ := h
                refine ⟨_, run_res1 rfl rfl rfl rfl (hB.kp (kp_putObj (r := D) (.deferred none)) (fun e => by omega)), ?_, ?_⟩
                · rw [if_neg hno]
                · exact Below.put (Below.put hb0E hk (fun k e => by omega)) (kp_putObj (r := D) (.deferred none)) (fun k e => by have := hb0E.size; omega)
        · have hnv' : ¬ (v.length : Int) = c.length := by omega
          (repeat (first | with_reducible refine Ops.nil ?_ | refine z_p (kk := ?_) | refine z_y (kk := ?_) | refine z_n (kk := ?_) | refine z_l (kk := ?_) | refine z_D (kk := ?_) | refine z_g (kk := ?_) | refine z_h (kk := ?_)))
          refine W.condT rfl (by first | rfl | assumption | (simp only [bnf] <;> omega) | (simp only [*, bnf]; done) | fail) ?_
          (repeat (first | with_reducible refine W.seq ?_ | with_reducible refine W.region ?_))
          refine Ops.st rfl rfl rfl rfl rfl rfl rfl B85 (by simp) (fun w9 hu9 => ?_)
          (repeat (first | with_reducible refine Ops.nil ?_))
          exact bad10 (fun h => hnv h.2.2.1) hb05 rfl (by simpa using hu9)
      · have hnu' : ¬ (u.length : Int) = c.length := by omega
        (repeat (first | with_reducible refine Ops.nil ?_ | refine z_p (kk := ?_) | refine z_y (kk := ?_) | refine z_n (kk := ?_) | refine z_l (kk := ?_) | refine z_D (kk := ?_) | refine z_g (kk := ?_)))
        refine W.condT rfl (by first | rfl | assumption | (simp only [bnf] <;> omega) | (simp only [*, bnf]; done) | fail) ?_
        (repeat (first | with_reducible refine W.seq ?_ | with_reducible refine W.region ?_))
        refine Ops.st rfl rfl rfl rfl rfl rfl rfl B85 (by simp) (fun w9 hu9 => ?_)
        (repeat (first | with_reducible refine Ops.nil ?_))
        exact bad10 (fun h => hnu h.2.1) hb05 rfl (by simpa using hu9)
    · rw [decide_eq_false hA]
      (repeat (first | with_reducible refine Ops.nil ?_ | refine z_p (kk := ?_) | refine z_n (kk := ?_)))
      refine W.condT rfl (by first | rfl | assumption | (simp only [bnf] <;> omega) | (simp only [*, bnf]; done) | fail) ?_
      (repeat (first | with_reducible refine W.seq ?_ | with_reducible refine W.region ?_))
      refine Ops.st rfl rfl rfl rfl rfl rfl rfl B85 (by simp) (fun w9 hu9 => ?_)
      (repeat (first | with_reducible refine Ops.nil ?_))
      exact bad10 (fun h => hA h.1) hb05 rfl (by simpa using hu9)
end Go.Proofs.Ytehjmakiljhjdaa
namespace Go.Proofs.Ytehjmakiljhjdaa
open Go Go.RowKit Go.Proofs.Ytehjmakiljhjdaa.VW
attribute [local irreducible] W Ops OrdA VW.Ord OrdX
set_option maxHeartbeats 4000000 in
theorem checksLaw_c {w : World} {mv v0 v1 v2 : Value} {l : List (List Int)} {x0 x1 x2 : List Int} (hm : ArgR w mv l) (h0 : Arg w v0 x0) (h1 : Arg w v1 x1) (h2 : Arg w v2 x2) :
    Calls Try.prog 7 #[mv, .agg #[v0, v1, v2]] w (Ret fun r w' => r = .bool true ∧ Below w.heap.size w w') := by
  refine calls_W (vs := [_, _]) Try.func7 rfl (by kernel_rfl) rfl ?_
  (repeat (first | with_reducible refine W.seq ?_ | with_reducible refine W.region ?_))
  refine Ops.box rfl rfl rfl rfl (fun w1 b3 hM3 => ?_)
  have hB3 : Blk w1 b3 #[v0, v1, v2] 54 := hM3.at_
  have hb1 := Mk.bel hM3
  (repeat (first | with_reducible refine W.seq ?_ | with_reducible refine Ops.nil ?_ | with_reducible refine W.region ?_ | refine z_p (kk := ?_)))
  have hm1 : ArgR w1 mv l := ⟨hm.1.below hb1, fun i i0 i1 => by
    obtain ⟨a, k, A', k', e1, e2, e3, e4⟩ := hm.2 i i0 i1
    exact ⟨a, k, A', k', e1, Sl.below e2 hb1, e3, fun w' hw => e4 w' (Below.via hb1 hw)⟩⟩
  refine Ops.call rfl rfl rfl rfl rfl (table_c hm1) (fun tv w2 hR => ?_)
  obtain ⟨cvs, hR⟩ := hR
  have hb2 := hR.o.bel
  have hM2 := hR.rowsM
  clear hR hm hm1
  generalize tab l = c at *
  obtain ⟨At, ct, rfl⟩ := hM2.sl
  have hb02 := Below.via hb1 hb2
  have hB2 : Blk w2 b3 #[v0, v1, v2] 54 := hB3.kp (Kp.of_below (S := fun _ => False) hb2) (fun e => e)
  have g0 := h0.below hb02
  have g1 := h1.below hb02
  have g2 := h2.below hb02
  (repeat (first | with_reducible refine W.seq ?_ | with_reducible refine Ops.nil ?_ | refine z_p (kk := ?_)))
  refine W.ord (hm := rfl) 99 (fun w' => Below w2.heap.size w2 w') [(0, 1), (1, 2), (3, 1), (4, 2), (6, 1), (7, 2), (2, 0), (5, 0), (8, 0), (9, 1), (10, 1), (11, 1)] (by kernel_rfl) rfl (by kernel_rfl) (fun w3 k3 _ => ⟨Kp.below k3 (Nat.le_refl _) (fun _ _ e => e), ?_⟩)
  have hb3 : Below w2.heap.size w2 w3 := Kp.below k3 (Nat.le_refl _) (fun _ _ e => e)
  refine VW.Ord.pure rfl rfl rfl rfl (fun _ _ _ h => h) (fun w => EV.idxP rfl rfl rfl rfl rfl (by omega) (by omega)) ?_
  rw [add_lit]
  (repeat (first | refine y_D (kk := ?_)))
  refine VW.Ord.pure rfl rfl rfl rfl (fun _ _ _ h => h) (fun w => EV.idxP rfl rfl rfl rfl rfl (by omega) (by omega)) ?_
  rw [add_lit]
  (repeat (first | refine y_D (kk := ?_)))
  refine VW.Ord.pure rfl rfl rfl rfl (fun _ _ _ h => h) (fun w => EV.idxP rfl rfl rfl rfl rfl (by omega) (by omega)) ?_
  rw [add_lit]
  (repeat (first | refine y_D (kk := ?_)))
  refine VW.Ord.effF rfl (Ops.call rfl rfl rfl rfl rfl (list_c (g0.below hb3)) (fun av w4 hA => Ops.nil (W.endl ⟨Below.via hb3 hA.bel, ?_⟩)))
  have hb4 := Below.via hb3 hA.bel
  refine VW.Ord.effF rfl (Ops.call rfl rfl rfl rfl rfl (list_c (g1.below hb4)) (fun uv w5 hU => Ops.nil (W.endl ⟨Below.via hb4 hU.bel, ?_⟩)))
  have hb5 := Below.via hb4 hU.bel
  refine VW.Ord.effF rfl (Ops.call rfl rfl rfl rfl rfl (list_c (g2.below hb5)) (fun vv w6 hV => Ops.nil (W.endl ⟨Below.via hb5 hV.bel, ?_⟩)))
  have hb6 := Below.via hb5 hV.bel
  have hb06 := Below.via hb02 hb6
  have hM6 := hM2.below hb6
  have hA6 := (hA.below hU.bel).below hV.bel
  have hU6 := hU.below hV.bel
  have aA := oi_arg hA6
  have sU := hU6.sl (z := (0 : Int))
  have sV := hV.sl (z := (0 : Int))
  clear hA hU hV hA6 hU6 g0 g1 g2 h0 h1 h2
  generalize x0.take 8 = a at *
  generalize x1.take 8 = u at *
  generalize x2.take 8 = v at *
  (repeat (first | refine y_p (kk := ?_)))
  refine VW.Ord.nil ?_
  (repeat (first | with_reducible refine W.seq ?_ | with_reducible refine W.region ?_ | refine z_p (kk := ?_)))
  refine Ops.call rfl rfl rfl rfl rfl (Check_c hM6 aA sU sV) (fun r w7 hR => ?_)
  obtain ⟨rfl, hb7⟩ := hR
  have hM7 := hM6.below hb7
  have aA7 := aA.below hb7
  (repeat (first | with_reducible refine W.seq ?_ | with_reducible refine Ops.nil ?_ | with_reducible refine W.region ?_ | refine z_p (kk := ?_)))
  refine Ops.call rfl rfl rfl rfl rfl (Total_c hM7 aA7) (fun r w8 hR => ?_)
  obtain ⟨rfl, hb8⟩ := hR
  have hM8 := hM7.below hb8
  have aA8 := aA7.below hb8
  have hb68 := Below.via hb7 hb8
  have sU8 := Sl.below sU hb68
  have sV8 := Sl.below sV hb68
  cases hc : costsB c with
  | false =>
    rw [if_neg (by simp), if_neg (by simp)]
    (repeat (first | with_reducible refine W.seq ?_ | with_reducible refine Ops.nil ?_ | with_reducible refine W.region ?_ | refine z_p (kk := ?_)))
    refine Ops.call rfl rfl rfl rfl rfl (refCosts_c hM8) (fun r w9 hR => ?_)
    obtain ⟨rfl, hb9⟩ := hR
    rw [hc]
    (repeat (first | with_reducible refine Ops.nil ?_ | refine z_p (kk := ?_)))
    refine W.condT rfl (by first | rfl | assumption | (simp only [bnf] <;> omega) | (simp only [*, bnf]; done) | fail) ?_
    (repeat (first | with_reducible refine W.seq ?_ | with_reducible refine W.region ?_ | refine z_p (kk := ?_) | refine z_y (kk := ?_)))
    refine Ops.call rfl rfl rfl rfl rfl (awake_c _) (fun r w10 hR => ?_)
    obtain ⟨rfl, hb10⟩ := hR
    (repeat (first | with_reducible refine Ops.nil ?_ | refine z_p (kk := ?_)))
    exact W.fret rfl ⟨rfl, Below.via hb06 (Below.via hb68 (Below.via hb9 hb10))⟩
  | true =>
    have hC := costs_iff.1 hc
    have hn7 := hC.n7
    rw [if_pos rfl]
    simp only [true_and]
    by_cases hP : Prov c a u v
    · have hA : Asg a c.length := hP.1
      rw [if_pos hP, if_pos hA]
      (repeat (first | with_reducible refine W.seq ?_ | with_reducible refine Ops.nil ?_ | with_reducible refine W.region ?_ | refine z_p (kk := ?_)))
      refine Ops.call rfl rfl rfl rfl rfl (refCosts_c hM8) (fun r w9 hR => ?_)
      obtain ⟨rfl, hb9⟩ := hR
      have hM9 := hM8.below hb9
      have aA9 := aA8.below hb9
      rw [hc]
      (repeat (first | with_reducible refine Ops.nil ?_ | refine z_p (kk := ?_)))
      refine W.condF rfl (by first | rfl | assumption | (simp only [bnf] <;> omega) | (simp only [*, bnf]; done) | fail) ?_
      (repeat (first | with_reducible refine W.seq ?_ | with_reducible refine W.region ?_ | refine z_p (kk := ?_) | with_reducible refine W.skip ?_))
      refine Ops.call rfl rfl rfl rfl rfl (proves_c hM9 hC aA9.1 (Sl.below sU8 hb9) (Sl.below sV8 hb9)) (fun r w10 hR => ?_)
      obtain ⟨rfl, hb10⟩ := hR
      have hM10 := hM9.below hb10
      have aA10 := aA9.below hb10
      have hb010 := Below.via hb06 (Below.via hb68 (Below.via hb9 hb10))
      rw [decide_eq_true hP]
      (repeat (first | with_reducible refine Ops.nil ?_ | refine z_p (kk := ?_) | refine z_y (kk := ?_) | refine z_n (kk := ?_) | refine z_E (kk := ?_)))
      refine W.condF rfl (by first | rfl | assumption | (simp only [bnf] <;> omega) | (simp only [*, bnf]; done) | fail) ?_
      (repeat (first | with_reducible refine W.seq ?_ | with_reducible refine W.region ?_ | refine z_p (kk := ?_) | with_reducible refine W.skip ?_ | refine z_l (kk := ?_)))
      refine Ops.call rfl rfl rfl rfl rfl (refAsg_c aA10.1 (n := c.length) (by omega)) (fun r w11 hR => ?_)
      obtain ⟨rfl, hb11⟩ := hR
      have hM11 := hM10.below hb11
      have hb011 := Below.via hb010 hb11
      rw [decide_eq_true hA]
      (repeat (first | with_reducible refine Ops.nil ?_ | refine z_p (kk := ?_)))
      refine W.condF rfl (by first | rfl | assumption | (simp only [bnf] <;> omega) | (simp only [*, bnf]; done) | fail) ?_
      (repeat (first | with_reducible refine W.seq ?_ | with_reducible refine W.region ?_ | refine z_p (kk := ?_) | with_reducible refine W.skip ?_))
      refine Ops.call rfl rfl rfl rfl rfl (refTotal_c hM11 hC (Sl.below aA10.1 hb11) (fun q hq => (hA.2 q hq).1) (by rw [hA.1]; exact Nat.le_refl _)) (fun r w12 hR => ?_)
      obtain ⟨rfl, hb12⟩ := hR
      rw [hA.1]
      (repeat (first | refine z_p (kk := ?_) | refine z_y (kk := ?_) | refine z_h (kk := ?_)))
      refine Ops.call rfl rfl rfl rfl rfl (awake_c _) (fun r w13 hR => ?_)
      obtain ⟨rfl, hb13⟩ := hR
      (repeat (first | with_reducible refine Ops.nil ?_ | refine z_p (kk := ?_)))
      exact W.fret rfl ⟨rfl, Below.via hb011 (Below.via hb12 hb13)⟩
    · rw [if_neg hP]
      by_cases hA : Asg a c.length
      · rw [if_pos hA]
        (repeat (first | with_reducible refine W.seq ?_ | with_reducible refine Ops.nil ?_ | with_reducible refine W.region ?_ | refine z_p (kk := ?_)))
        refine Ops.call rfl rfl rfl rfl rfl (refCosts_c hM8) (fun r w9 hR => ?_)
        obtain ⟨rfl, hb9⟩ := hR
        have hM9 := hM8.below hb9
        have aA9 := aA8.below hb9
        rw [hc]
        (repeat (first | with_reducible refine Ops.nil ?_ | refine z_p (kk := ?_)))
        refine W.condF rfl (by first | rfl | assumption | (simp only [bnf] <;> omega) | (simp only [*, bnf]; done) | fail) ?_
        (repeat (first | with_reducible refine W.seq ?_ | with_reducible refine W.region ?_ | refine z_p (kk := ?_) | with_reducible refine W.skip ?_))
        refine Ops.call rfl rfl rfl rfl rfl (proves_c hM9 hC aA9.1 (Sl.below sU8 hb9) (Sl.below sV8 hb9)) (fun r w10 hR => ?_)
        obtain ⟨rfl, hb10⟩ := hR
        have hM10 := hM9.below hb10
        have aA10 := aA9.below hb10
        have hb010 := Below.via hb06 (Below.via hb68 (Below.via hb9 hb10))
        rw [decide_eq_false hP]
        (repeat (first | with_reducible refine Ops.nil ?_ | refine z_p (kk := ?_) | refine z_y (kk := ?_) | refine z_E (kk := ?_)))
        refine W.condF rfl (by first | rfl | assumption | (simp only [bnf] <;> omega) | (simp only [*, bnf]; done) | fail) ?_
        (repeat (first | with_reducible refine W.seq ?_ | with_reducible refine W.region ?_ | refine z_p (kk := ?_) | with_reducible refine W.skip ?_ | refine z_l (kk := ?_)))
        refine Ops.call rfl rfl rfl rfl rfl (refAsg_c aA10.1 (n := c.length) (by omega)) (fun r w11 hR => ?_)
        obtain ⟨rfl, hb11⟩ := hR
        have hM11 := hM10.below hb11
        have hb011 := Below.via hb010 hb11
        rw [decide_eq_true hA]
        (repeat (first | with_reducible refine Ops.nil ?_ | refine z_p (kk := ?_)))
        refine W.condF rfl (by first | rfl | assumption | (simp only [bnf] <;> omega) | (simp only [*, bnf]; done) | fail) ?_
        (repeat (first | with_reducible refine W.seq ?_ | with_reducible refine W.region ?_ | refine z_p (kk := ?_) | with_reducible refine W.skip ?_))
        refine Ops.call rfl rfl rfl rfl rfl (refTotal_c hM11 hC (Sl.below aA10.1 hb11) (fun q hq => (hA.2 q hq).1) (by rw [hA.1]; exact Nat.le_refl _)) (fun r w12 hR => ?_)
        obtain ⟨rfl, hb12⟩ := hR
        rw [hA.1]
        (repeat (first | refine z_p (kk := ?_) | refine z_y (kk := ?_) | refine z_h (kk := ?_)))
        refine Ops.call rfl rfl rfl rfl rfl (awake_c _) (fun r w13 hR => ?_)
        obtain ⟨rfl, hb13⟩ := hR
        (repeat (first | with_reducible refine Ops.nil ?_ | refine z_p (kk := ?_)))
        exact W.fret rfl ⟨rfl, Below.via hb011 (Below.via hb12 hb13)⟩
      · rw [if_neg hA]
        (repeat (first | with_reducible refine W.seq ?_ | with_reducible refine Ops.nil ?_ | with_reducible refine W.region ?_ | refine z_p (kk := ?_)))
        refine Ops.call rfl rfl rfl rfl rfl (refCosts_c hM8) (fun r w9 hR => ?_)
        obtain ⟨rfl, hb9⟩ := hR
        have hM9 := hM8.below hb9
        have aA9 := aA8.below hb9
        rw [hc]
        (repeat (first | with_reducible refine Ops.nil ?_ | refine z_p (kk := ?_)))
        refine W.condF rfl (by first | rfl | assumption | (simp only [bnf] <;> omega) | (simp only [*, bnf]; done) | fail) ?_
        (repeat (first | with_reducible refine W.seq ?_ | with_reducible refine W.region ?_ | refine z_p (kk := ?_) | with_reducible refine W.skip ?_))
        refine Ops.call rfl rfl rfl rfl rfl (proves_c hM9 hC aA9.1 (Sl.below sU8 hb9) (Sl.below sV8 hb9)) (fun r w10 hR => ?_)
        obtain ⟨rfl, hb10⟩ := hR
        have hM10 := hM9.below hb10
        have aA10 := aA9.below hb10
        have hb010 := Below.via hb06 (Below.via hb68 (Below.via hb9 hb10))
        rw [decide_eq_false hP]
        (repeat (first | with_reducible refine Ops.nil ?_ | refine z_p (kk := ?_) | refine z_y (kk := ?_) | refine z_E (kk := ?_)))
        refine W.condF rfl (by first | rfl | assumption | (simp only [bnf] <;> omega) | (simp only [*, bnf]; done) | fail) ?_
        (repeat (first | with_reducible refine W.seq ?_ | with_reducible refine W.region ?_ | refine z_p (kk := ?_) | with_reducible refine W.skip ?_ | refine z_l (kk := ?_)))
        refine Ops.call rfl rfl rfl rfl rfl (refAsg_c aA10.1 (n := c.length) (by omega)) (fun r w11 hR => ?_)
        obtain ⟨rfl, hb11⟩ := hR
        have hM11 := hM10.below hb11
        have hb011 := Below.via hb010 hb11
        rw [decide_eq_false hA]
        (repeat (first | with_reducible refine Ops.nil ?_ | refine z_p (kk := ?_)))
        refine W.condT rfl (by first | rfl | assumption | (simp only [bnf] <;> omega) | (simp only [*, bnf]; done) | fail) ?_
        (repeat (first | with_reducible refine W.seq ?_ | with_reducible refine W.region ?_ | refine z_p (kk := ?_) | refine z_y (kk := ?_)))
        refine Ops.call rfl rfl rfl rfl rfl (awake_c _) (fun r w13 hR => ?_)
        obtain ⟨rfl, hb13⟩ := hR
        (repeat (first | with_reducible refine Ops.nil ?_ | refine z_p (kk := ?_)))
        exact W.fret rfl ⟨rfl, Below.via hb011 hb13⟩
end Go.Proofs.Ytehjmakiljhjdaa
/- Plain: the order in which the program visits all assignments. -/
namespace Go.Proofs.Ytehjmakiljhjdaa
open Go Go.RowKit Go.Proofs.Ytehjmakiljhjdaa.VW
/-- The visits of the first m holes. -/
def visJ (f : List Int → List (List Int)) (l : List Int) : Nat → List (List Int)
  | 0 => []
  | m + 1 => visJ f l m ++ if (m : Int) ∈ l then [] else f (l ++ [(m : Int)])
def visS (n : Nat) : Nat → List Int → List (List Int)
  | 0, l => [l]
  | k + 1, l => visJ (visS n k) l n
theorem mem_visJ {f : List Int → List (List Int)} {l x : List Int} : ∀ m, x ∈ visJ f l m ↔ ∃ j, j < m ∧ ¬ (j : Int) ∈ l ∧ x ∈ f (l ++ [(j : Int)])
  | 0 => by simp [visJ]
  | m + 1 => by
    simp only [visJ, List.mem_append, mem_visJ m]
    constructor
    · rintro (⟨j, h1, h2, h3⟩ | h)
      · exact ⟨j, by omega, h2, h3⟩
      · split at h
        · simp at h
        · rename_i hm
          exact ⟨m, by omega, hm, h⟩
    · rintro ⟨j, h1, h2, h3⟩
      by_cases e : j = m
      · subst e; right; rw [if_neg h2]; exact h3
      · exact .inl ⟨j, by omega, h2, h3⟩
theorem beg_snoc {l : List Int} {n i j : Nat} (h : Beg l n i) (hj : j < n) (hm : ¬ (j : Int) ∈ l) : Beg (l ++ [(j : Int)]) n (i + 1) := by
  obtain ⟨h1, h2, h3⟩ := h
  refine ⟨by simp [h1], fun x hx => ?_, List.nodup_append.2 ⟨h3, by simp, fun x hx y hy e => by simp at hy; subst hy; subst e; exact hm hx⟩⟩
  rcases List.mem_append.1 hx with h | h
  · exact h2 x h
  · simp at h; omega
theorem mem_visS {n : Nat} {x : List Int} : ∀ k l, l.length + k = n → Beg l n l.length → (x ∈ visS n k l ↔ Beg x n n ∧ x.take l.length = l)
  | 0, l, hl, hb => by
    simp only [visS, List.mem_singleton]
    constructor
    · rintro rfl
      exact ⟨by rw [show n = x.length by omega]; rw [show n = x.length by omega] at hb; exact hb, by simp⟩
    · rintro ⟨h1, h2⟩
      rw [← h2, List.take_of_length_le (by have := h1.1; omega)]
  | k + 1, l, hl, hb => by
    simp only [visS, mem_visJ]
    constructor
    · rintro ⟨j, j1, j2, j3⟩
      have hb' := beg_snoc hb j1 j2
      have hlen : (l ++ [(j : Int)]).length = l.length + 1 := by simp
      rw [mem_visS k _ (by rw [hlen]; omega) (by rw [hlen]; exact hb')] at j3
      refine ⟨j3.1, ?_⟩
      have := congrArg (List.take l.length) j3.2
      rw [hlen, List.take_take] at this
      simpa [Nat.min_eq_left (Nat.le_succ _)] using this
    · rintro ⟨h1, h2⟩
      have hA := asg_beg.2 h1
      have hxl := h1.1
      have hi : l.length < n := by omega
      have hnm := Asg.not_mem hA (i := l.length) (by omega)
      rw [h2] at hnm
      have hf := hA.funA hi
      rw [hf.1] at hnm
      refine ⟨funA x l.length, hf.2, hnm, ?_⟩
      have hlen : (l ++ [((funA x l.length : Nat) : Int)]).length = l.length + 1 := by simp
      rw [mem_visS k _ (by rw [hlen]; omega) (by rw [hlen]; exact beg_snoc hb hf.2 hnm)]
      refine ⟨h1, ?_⟩
      rw [hlen, take_succI (by omega), h2, hf.1]
theorem visS_take {n : Nat} {x l : List Int} {k : Nat} (hl : l.length + k = n) (hb : Beg l n l.length) (h : x ∈ visS n k l) : ∃ y, x = l ++ y := by
  have := (mem_visS k l hl hb).1 h
  exact ⟨x.drop l.length, by conv => lhs; rw [← List.take_append_drop l.length x, this.2]⟩
theorem visS_sorted {n : Nat} : ∀ k l, l.length + k = n → Beg l n l.length → (visS n k l).Pairwise fun x y => lexB x y = true
  | 0, l, _, _ => by simp [visS]
  | k + 1, l, hl, hb => by
    simp only [visS]
    have key : ∀ m, m ≤ n → (visJ (visS n k) l m).Pairwise fun x y => lexB x y = true := fun m => by
      induction m with
      | zero => intro _; exact .nil
      | succ m ih =>
        intro hm
        simp only [visJ]
        refine List.pairwise_append.2 ⟨ih (by omega), ?_, fun x hx y hy => ?_⟩
        · split
          · exact .nil
          · rename_i hn
            have hlen : (l ++ [(m : Int)]).length = l.length + 1 := by simp
            exact visS_sorted k _ (by rw [hlen]; omega) (by rw [hlen]; exact beg_snoc hb (by omega) hn)
        · obtain ⟨j, j1, j2, j3⟩ := (mem_visJ m).1 hx
          split at hy
          · simp at hy
          · rename_i hn
            have hlen : ∀ j : Nat, (l ++ [(j : Int)]).length = l.length + 1 := fun j => by simp
            obtain ⟨y1, rfl⟩ := visS_take (by rw [hlen]; omega) (by rw [hlen]; exact beg_snoc hb (by omega) j2) j3
            obtain ⟨y2, rfl⟩ := visS_take (by rw [hlen]; omega) (by rw [hlen]; exact beg_snoc hb (by omega) hn) hy
            rw [List.append_assoc, List.append_assoc, List.singleton_append, List.singleton_append]
            exact lexB_app (by omega) _ _
    exact key n (Nat.le_refl _)
theorem lexB_asymm {a b : List Int} (h : lexB a b = true) : ¬ lexB b a = true := fun h2 => by
  have := lexB_trans _ _ _ h h2
  rw [lexB_irr] at this
  cases this
theorem sorted_ext : ∀ l1 l2 : List (List Int), (l1.Pairwise fun x y => lexB x y = true) → (l2.Pairwise fun x y => lexB x y = true) → (∀ x, x ∈ l1 ↔ x ∈ l2) → l1 = l2
  | [], [], _, _, _ => rfl
  | [], y :: l2, _, _, h => by have := (h y).2 (by simp); simp at this
  | x :: l1, [], _, _, h => by have := (h x).1 (by simp); simp at this
  | x :: l1, y :: l2, h1, h2, h => by
    obtain ⟨a1, b1⟩ := List.pairwise_cons.1 h1
    obtain ⟨a2, b2⟩ := List.pairwise_cons.1 h2
    have e : x = y := by
      rcases List.mem_cons.1 ((h x).1 (by simp)) with e | e
      · exact e
      · rcases List.mem_cons.1 ((h y).2 (by simp)) with e2 | e2
        · exact e2.symm
        · exact absurd (a1 y e2) (lexB_asymm (a2 x e))
    subst e
    rw [sorted_ext l1 l2 b1 b2 (fun z => ?_)]
    constructor
    · intro hz
      rcases List.mem_cons.1 ((h z).1 (by simp [hz])) with e | e
      · subst e; have := a1 _ hz; rw [lexB_irr] at this; cases this
      · exact e
    · intro hz
      rcases List.mem_cons.1 ((h z).2 (by simp [hz])) with e | e
      · subst e; have := a2 _ hz; rw [lexB_irr] at this; cases this
      · exact e
theorem vis_all (n : Nat) : visS n n [] = allL n := by
  have hb : Beg [] n ([] : List Int).length := ⟨rfl, fun x hx => by simp at hx, by simp⟩
  refine sorted_ext _ _ (visS_sorted n [] (by simp) hb) allL_sorted (fun x => ?_)
  rw [mem_visS n [] (by simp) hb, mem_allL, asg_beg]
  simp
end Go.Proofs.Ytehjmakiljhjdaa
namespace Go.Proofs.Ytehjmakiljhjdaa.VW
open Go Go.RowKit
section
variable {P : Program} {n : Nat} {ds : List Deferred} {ρ : E} {w : World} {r : Option Nat}
theorem OpsI.yield1 {all : Array Oper} {Q : Post} {rest : List Oper} {o : Oper} {d : Nat} {x y1 : Operand} {l : Nat} {v1 : Value} {ts : Array TypeId}
    (ho : o.op = .call { callee := .value x, args := #[y1], argTypes := ts }) (hdst : o.dst = some d) (hlt : Nat.blt d n = true) (hg : o.guard = none)
    (hx : ev ρ x = some (.func (.yield l) #[] #[])) (hy1 : ev ρ y1 = some v1)
    (hyld : YieldAt (Fw r) 0 P l #[v1] w (fun e w' => e = .returned (.bool true) ∧ OpsI r P n ds all Q rest ((d, .bool true) :: ρ) w')) : OpsI r P n ds all Q (o :: rest) ρ w := by
  intro a hr hd
  unfold wpListIn
  rw [if_pos (by simp [Region.wanted, hg])]
  refine ⟨fun f _ => Fw_fn r f, ?_⟩
  rw [Oper.semAt_eq _ _ _ (by rw [ho]; simp)]
  obtain ⟨fn, tmps, assign, body, hrun, hround⟩ := hyld
  have he : (execOp a.eval o).run P w = .ok (.round l fn tmps assign body) w := by
    have q : #[y1].map a.eval = #[v1] := by simp only [List.map_toArray, List.map_cons, List.map_nil, hr.ev hy1]
    rw [← hrun]
    simp only [execOp, ho, resolve, q]
    simp [hr.ev hx, Deferred.ofValue, invoke]
  rw [he, Oper.uponIn_round]
  refine ⟨fun h => (by rw [Fw_dep] at h; cases h), RoundIn.mono hround fun e w' he => ?_⟩
  obtain ⟨rfl, h⟩ := he
  have hput : Rep n (a.put o.dst (.bool true)) ((d, .bool true) :: ρ) := by
    have := hr.put (d := o.dst) (by rw [hdst]; exact hlt) (.bool true)
    rw [hdst] at this ⊢
    exact this
  exact h _ hput (by rw [hdst]; exact hd)
end
section
variable {P : Program} [hT : Tab P] {n : Nat} {ds : List Deferred} {Φ : Post} {k : List It} {ρ : E} {w : World} {all : Array Oper} {l : List Oper} {md : Option (List Oper)} {F : World → Prop} {π : List Nat} {L : List Bool}
omit hT in
theorem OrdF.no {i d : Nat} {o : Oper} {c : Bool} (hp : freeB all L i = true) (ho : all[i]? = some o) (hd : o.dst = some d) (hg : gdB all ρ o.guard = some c) (hgc : c = false)
    (h : OrdF P n ds all k Φ F π (L.set i true) ((d, undef) :: ρ) w) : OrdF P n ds all k Φ F (i :: π) L ρ w := by
  subst hgc
  intro hs hdo hcl hΦ hF a hr hds
  simp only [freeB, Bool.and_eq_true] at hp
  have hdn : dOk n o.dst = true := by
    rw [List.all_eq_true] at hdo
    exact hdo o (by rw [← Array.getElem?_toList] at ho; exact List.mem_of_getElem? ho)
  refine wpAnyI_take ho hs hp.1 hp.2 (fun c a w hq => by obtain ⟨ρ', _, _, hq⟩ := hq; exact absurd hq (pan_no hΦ k c ρ' w)) (fun _ _ => Iff.rfl) (G := F) (fun _ _ _ _ h => h) hcl (v := undef) (.inr ⟨gdB_wanted hg hr, rfl⟩) hF ?_
  have := h hs hdo (by rw [← List.setIfInBounds_toArray]; exact hcl.set (by simpa using hp.2)) hΦ hF (a.put o.dst undef) (by have := hr.put hdn undef; rw [hd] at this ⊢; exact this) (by rw [hd]; exact hds)
  rw [List.setIfInBounds_toArray]
  exact this
omit hT in
theorem f_n {i d : Nat} {o : Oper} {c : Bool} (ho : all[i]? = some o := by exact rfl) (hd : o.dst = some d := by exact rfl) (hg : gdB all ρ o.guard = some c := by exact rfl) (hgc : c = false := by exact rfl) (hp : freeB all L i = true := by kernel_rfl)
    (kk : OrdF P n ds all k Φ F π (L.set i true) ((d, undef) :: ρ) w) : OrdF P n ds all k Φ F (i :: π) L ρ w := OrdF.no hp ho hd hg hgc kk
theorem EV.sl3 {o : Oper} {t e sz m c : Nat} {x y z : Operand} {A : Option Addr} (ho : o.op = .slice t x none (some y) (some z)) (ht : tyD P t = some (.slice e)) (hs : tyS P e = some sz) (hx : ev ρ x = some (.slice A m c)) (hy : ev ρ y = some (.int .i64 (m : Int))) (hz : ev ρ z = some (.int .i64 (m : Int))) (h1 : m ≤ c) :
    EV P n ρ w o (.slice A m m) := by
  intro a hr
  have e0 : A.map (fun p : Addr => p.add 0) = A := by cases A <;> simp [Addr.add]
  simp [execOp, ho, hr.ev hx, hr.ev hy, hr.ev hz, Instr.sliceAt, Instr.slice, Instr.sliceBounds, Instr.sliceBound, asIntOf, run_und (td_slice (tyD_ok ht)), run_sizeOf hs, h1, e0]
/-- append(s, x) where s has no room: the append alone. -/
theorem Ops.appG {α : Type} {enc : α → Value} {z0 : α} {o2 : Oper} {d2 t e by' m r : Nat} {y x : Operand} {u : α} {A : Option Addr} {z : Value} {xs : List α}
    (h2 : o2.op = .call { callee := .builtin .append, args := #[y, x], argTypes := #[t, t] }) (hd2 : o2.dst = some d2) (hg2 : o2.guard = none)
    (ht : tyD P t = some (.slice e)) (hs : tyS P e = some 1) (hb : tyB P e = some (by' + 1)) (hz : tyZ P e = some z) (hzs : z.cells.size = 1) (hx : ev ρ x = some (.slice (some ⟨r, 0, none⟩) 1 1)) (hy : ev ρ y = some (.slice A m m)) (hnil : A = none → m = 0)
    (hS : Sl enc z0 w (.slice A m m) xs) (hone : w.ownsRow 0 e 1 (.slice (some ⟨r, 0, none⟩) 1 1) 1 [enc u]) (hbytes : (xs.length + 1) * (by' + 1) ≤ 140737488355328)
    (hk : ∀ lv' w', OI e enc w w' lv' (xs ++ [u]) → Ops none P n ds all k Φ l ((d2, lv') :: ρ) w') : Ops none P n ds all k Φ (o2 :: l) ρ w := by
  obtain ⟨f, hi, h2', h3, h4⟩ := tyE_ok hs hb hz
  obtain ⟨hm', A', c', e1, hc⟩ := hS
  cases e1
  have hnews : ∀ j v, [enc u][j]? = some v → w.cell? ((⟨r, 0, none⟩ : Addr).add j) = some v := hone.cells (g := r) rfl
  have hl5 : xs.length + 1 ≤ (xs.length + 1) * (by' + 1) := Nat.le_mul_of_pos_right _ (by omega)
  have key : ∀ (cap : Nat) (cs : Array Value), cap = grownCap w (xs.length + 1) xs.length e → cs.size = cap → cs.toList.take (xs.length + 1) = (xs ++ [u]).map enc → OI e enc w (w.drew.alloc (.cells cs e)) (.slice (some ⟨w.heap.size, 0, none⟩) (xs.length + 1) cap) (xs ++ [u]) := by
    intro cap cs hcap hcs ht'
    have hal := mk_alloc w.drew (.cells cs e)
    have hd : Below w.heap.size w w.drew := Kp.below (kp_drew w) (Nat.le_refl _) (fun _ _ e => e)
    refine ⟨Below.put hd hal.kp (fun _ e => e.elim), ⟨by simp, .inr ⟨w.heap.size, cap, cs, by simp, Nat.zero_le _, hal.at_, ?_, ?_, by omega, by simpa using ht'⟩⟩, fun j hj => by simp [Value.ownBlock] at hj; omega⟩
    · rw [hcap]; have := grownCap_ge w (xs.length + 1) xs.length e; simpa using this
    · rw [hcap]; exact grownCap_le_maxLen w _ _ e (by simp only [maxLen]; omega)
  have hrun : ∃ v' w', (Builtin.append_ #[t, t] o2.type #[.slice A xs.length xs.length, .slice (some ⟨r, 0, none⟩) 1 1]).run P w = .ok v' w' ∧ OI e enc w w' v' (xs ++ [u]) := by
    cases A with
    | none =>
      have hx0 : xs = [] := List.eq_nil_of_length_eq_zero (hnil rfl)
      subst hx0
      have hr := run_append_nil (P := P) w t o2.type e f z (td_slice (tyD_ok ht)) hi h4 ⟨r, 0, none⟩ 1 1 [enc u] (by rw [h2']; rfl) hnews (by omega) (by omega) (by rw [h3]; simp only [List.length_nil, Nat.zero_add] at hbytes; omega)
      refine ⟨_, _, hr, ?_⟩
      have := key _ ([enc u].toArray ++ Builtin.zeroCells z.cells (grownCap w 1 0 e - 1)) rfl (by have := grownCap_ge w 1 0 e; simp [size_zeroCells, hzs]; omega) (by simp)
      simpa using this
    | some a =>
      have hold : ∀ j v, (xs.map enc)[j]? = some v → w.cell? (a.add j) = some v := fun j v hj => by
        rw [List.getElem?_map, Option.map_eq_some_iff] at hj
        obtain ⟨q, hq, rfl⟩ := hj
        have hjl := (List.getElem?_eq_some_iff.1 hq).1
        obtain ⟨a', ea, hcc⟩ := hc (by omega)
        cases ea
        rw [hcc j hjl]
        simp [List.getD_eq_getElem?_getD, hq]
      have hr := run_append_grow (P := P) w t o2.type e f z (td_slice (tyD_ok ht)) hi h4 a xs.length xs.length (xs.map enc) (by rw [h2']; simp) hold ⟨r, 0, none⟩ 1 1 [enc u] (by rw [h2']; rfl) hnews (by omega) (by omega) (by rw [h3]; exact growslice_fits (by omega) hbytes)
      refine ⟨_, _, hr, ?_⟩
      refine key _ ((xs.map enc).toArray ++ [enc u].toArray ++ Builtin.zeroCells z.cells (grownCap w (xs.length + 1) xs.length e - (xs.length + 1))) rfl ?_ ?_
      · have := grownCap_ge w (xs.length + 1) xs.length e; simp [size_zeroCells, hzs]; omega
      · simp only [Array.toList_append, List.map_append, List.map_cons, List.map_nil]
        rw [List.take_append_of_le_length (by simp)]
        rw [List.take_of_length_le (by simp)]
  obtain ⟨v', w', hr', hO⟩ := hrun
  refine Ops.val hd2 hg2 (fun a hr => ?_) (hk v' w' hO)
  simp [execOp, h2, resolve, invoke, builtin, hr.ev hx, hr.ev hy, hr']
end
/-- What stands under a set that grows. -/
theorem Kp.own {own own' : Nat → Prop} {w w' w2 : World} (h : Kp own w w') (k : Kp own' w' w2) (hg : ∀ x, own' x → own x ∨ w'.heap.size ≤ x) : Kp own w w2 :=
  (h.trans k).mono (fun i hi e => by
    rcases e with e | e
    · exact e
    · rcases hg i e with e2 | e2
      · exact e2
      · have := h.size; omega)
end Go.Proofs.Ytehjmakiljhjdaa.VW
namespace Go.Proofs.Ytehjmakiljhjdaa
open Go Go.RowKit Go.Proofs.Ytehjmakiljhjdaa.VW
attribute [local irreducible] W Ops OrdA VW.Ord OrdX Wi OpsI OrdF
abbrev extV (b1 b2 b3 : Nat) : Value := .func (.func 91) #[] #[.pointer (some ⟨b1, 0, none⟩), .pointer (some ⟨b2, 0, none⟩), .pointer (some ⟨b3, 0, none⟩)]
/-- What the visits lean on. -/
structure Pt (b1 b2 b3 lp n cap : Nat) (A : Option Addr) (own : Nat → Prop) (w : World) : Prop where
  h1 : Blk w b1 #[.slice A n cap] 71
  h2 : Blk w b2 #[.func (.yield lp) #[] #[]] 88
  h3 : Blk w b3 #[extV b1 b2 b3] 88
  o1 : ¬ own b1
  o2 : ¬ own b2
  o3 : ¬ own b3
  lt : ∀ x, own x → x < w.heap.size
theorem Pt.kp {b1 b2 b3 lp n cap : Nat} {A : Option Addr} {own own' : Nat → Prop} {w w' : World} (h : Pt b1 b2 b3 lp n cap A own w) (k : Kp own' w w') (hg : ∀ x, own' x → own x ∨ w.heap.size ≤ x) (hl : ∀ x, own' x → x < w'.heap.size) : Pt b1 b2 b3 lp n cap A own' w' := by
  have g1 : ¬ own' b1 := fun e => (hg _ e).elim h.o1 (fun e2 => by have := h.h1.lt; omega)
  have g2 : ¬ own' b2 := fun e => (hg _ e).elim h.o2 (fun e2 => by have := h.h2.lt; omega)
  have g3 : ¬ own' b3 := fun e => (hg _ e).elim h.o3 (fun e2 => by have := h.h3.lt; omega)
  exact ⟨h.h1.kp k g1, h.h2.kp k g2, h.h3.kp k g3, g1, g2, g3, hl⟩
/-- What a visit leaves. -/
def Vd (J : List (List Int) → (Nat → Prop) → World → Prop) (done : List (List Int)) (own : Nat → Prop) (w w' : World) : Prop := ∃ own', J done own' w' ∧ Kp own' w w' ∧ (∀ x, own x → own' x) ∧ (∀ x, own' x → own x ∨ w.heap.size ≤ x) ∧ ∀ x, own' x → x < w'.heap.size
theorem Vd.via {J : List (List Int) → (Nat → Prop) → World → Prop} {d2 : List (List Int)} {own own1 : Nat → Prop} {w w1 w2 : World} (k : Kp own1 w w1) (hs : ∀ x, own x → own1 x) (hg : ∀ x, own1 x → own x ∨ w.heap.size ≤ x) (h : Vd J d2 own1 w1 w2) : Vd J d2 own w w2 := by
  obtain ⟨own2, h1, h2, h3, h4, h5⟩ := h
  refine ⟨own2, h1, (k.trans h2).mono (fun i hi e => by rcases e with e | e; exact h3 i e; exact e), fun x hx => h3 x (hs x hx), fun x hx => ?_, h5⟩
  rcases h4 x hx with e | e
  · exact hg x e
  · have := k.size; omega
theorem visJ_split {f : List Int → List (List Int)} {l : List Int} {j : Nat} : ∀ m, j ≤ m → ∃ t, visJ f l m = visJ f l j ++ t
  | 0, h => by
    obtain rfl : j = 0 := by omega
    exact ⟨[], by simp⟩
  | m + 1, h => by
    by_cases e : j = m + 1
    · subst e; exact ⟨[], by simp⟩
    · obtain ⟨t, ht⟩ := visJ_split (f := f) (l := l) m (show j ≤ m by omega)
      exact ⟨t ++ if (m : Int) ∈ l then [] else f (l ++ [(m : Int)]), by rw [visJ, ht, List.append_assoc]⟩
set_option maxHeartbeats 4000000 in
theorem ext_in {b1 b2 b3 lp n cap : Nat} {A : Option Addr} {J : List (List Int) → (Nat → Prop) → World → Prop} (hn : n ≤ 7)
    (hJk : ∀ done own W W', J done own W → Kp (fun _ => False) W W' → J done own W')
    (hyes : ∀ done own a A m W, J done own W → (∃ rest, done ++ [a] ++ rest = allL n) → Asg a n → SlI W (.slice A a.length m) a → a.length ≤ m → (∀ i, Value.ownBlock (.slice A a.length m) = some i → ¬ own i ∧ lp < i) → (∀ x, own x → x < W.heap.size) → YieldAt (Fw none) 0 Try.prog lp #[.slice A a.length m] W (fun e W' => e = .returned (.bool true) ∧ Vd J (done ++ [a]) own W W')) :
    ∀ (k : Nat) (l : List Int) (done : List (List Int)) (own : Nat → Prop) (w : World) (Al : Option Addr) (m : Nat), l.length + k = n → Beg l n l.length → (∃ rest, done ++ visS n k l ++ rest = allL n) → J done own w → Pt b1 b2 b3 lp n cap A own w → lp < w.heap.size → SlI w (.slice Al l.length m) l → l.length ≤ m → (∀ i, Value.ownBlock (.slice Al l.length m) = some i → ¬ own i ∧ lp < i) →
    CallsIn (Fw none) 0 Try.prog 91 #[.slice Al l.length m, .pointer (some ⟨b1, 0, none⟩), .pointer (some ⟨b2, 0, none⟩), .pointer (some ⟨b3, 0, none⟩)] w (Ret fun r w' => r = .bool true ∧ Vd J (done ++ visS n k l) own w w') := by
  intro k
  induction k with
  | zero =>
    intro l done own w Al m hl hb hpre hj hp hlp hs hm ho
    have hl' : (l.length : Int) = n := by omega
    have hA : Asg l n := asg_beg.2 (by rw [show l.length = n by omega] at hb; exact hb)
    have B1 := hp.h1
    have B2 := hp.h2
    have hbw : Below w.heap.size w w := Below.refl _ _
    refine callsIn_Wi (vs := [_, _, _, _]) Try.func91 rfl rfl ?_
    refine Wi.seq (Wi.regionN rfl rfl ?_)
    (repeat (first | with_reducible refine Ops.nil ?_ | refine z_p (kk := ?_)))
    refine W.endl ?_
    refine Wi.seq (Wi.seq (Wi.regionN rfl rfl ?_))
    (repeat (first | with_reducible refine Ops.nil ?_ | refine z_p (kk := ?_) | refine z_l (kk := ?_) | refine z_d (kk := ?_)))
    refine W.endl ?_
    refine Wi.cond rfl (fun hc => ?_) (fun hc => absurd hl' (by simpa using hc))
    refine Wi.seq (Wi.region ?_)
    refine OpsI.split 2 rfl rfl rfl rfl ?_
    (repeat (first | refine z_p (kk := ?_) | refine z_d (kk := ?_)))
    refine Ops.nil (W.endl ?_)
    obtain ⟨fn, tmps, assign, body, hr, hR⟩ := hyes done own l Al m w hj (by obtain ⟨rest, e⟩ := hpre; exact ⟨rest, by simpa [visS] using e⟩) hA hs hm ho hp.lt
    refine OpsI.yield1 rfl rfl rfl rfl rfl rfl ⟨fn, tmps, assign, body, hr, hR.mono fun e W' he => ⟨he.1, ?_⟩⟩
    refine OpsI.split 1 rfl rfl rfl rfl ?_
    (repeat (first | refine z_p (kk := ?_)))
    refine Ops.nil (W.endl (OpsI.nil ?_))
    refine Wi.ret ?_
    exact ⟨.inr rfl, _, rfl, rfl, he.2⟩
  | succ k ih =>
    intro l done own w Al m hl hb hpre hj hp hlp hs hm ho
    have hl' : ¬ (l.length : Int) = n := by omega
    have B1 := hp.h1
    have hbw : Below w.heap.size w w := Below.refl _ _
    refine callsIn_Wi (vs := [_, _, _, _]) Try.func91 rfl rfl ?_
    refine Wi.seq (Wi.regionN rfl rfl ?_)
    (repeat (first | with_reducible refine Ops.nil ?_ | refine z_p (kk := ?_)))
    refine W.endl ?_
    refine Wi.seq (Wi.seq (Wi.regionN rfl rfl ?_))
    (repeat (first | with_reducible refine Ops.nil ?_ | refine z_p (kk := ?_) | refine z_l (kk := ?_) | refine z_d (kk := ?_)))
    refine W.endl ?_
    refine Wi.cond rfl (fun hc => absurd (by simpa using hc) hl') (fun hc => Wi.skip ?_)
    refine Wi.seq (Wi.seq (Wi.regionN rfl rfl ?_))
    (repeat (first | with_reducible refine Ops.nil ?_ | refine z_p (kk := ?_) | refine z_l (kk := ?_) | refine z_d (kk := ?_)))
    refine W.endl ?_
    refine Wi.sub (ρ' := [(0, .slice Al l.length m), (3, .pointer (some ⟨b3, 0, none⟩)), (16, .int .i64 n), (17, .int .i64 0)]) (by repeat (first | exact trivial | refine And.intro rfl ?_)) ?_
    clear B1 hbw hc
    refine Wi.block (Wi.loop (m := n) (fun mm ρ w1 => ∃ (j : Nat), mm = n - j ∧ j ≤ n ∧ ρ = [(0, .slice Al l.length m), (3, .pointer (some ⟨b3, 0, none⟩)), (16, .int .i64 n), (17, .int .i64 j)] ∧ Vd J (done ++ visJ (visS n k) l j) own w w1) ⟨0, rfl, Nat.zero_le _, rfl, ⟨own, by simpa [visJ] using hj, Kp.of_below (Below.refl _ _), fun x h => h, fun x h => .inl h, hp.lt⟩⟩ ?_)
    rintro mm ρ w1 ⟨j, rfl, hj2, rfl, hV⟩
    refine Wi.seq (Wi.regionN rfl rfl ?_)
    (repeat (first | with_reducible refine Ops.nil ?_ | refine z_p (kk := ?_)))
    refine W.endl ?_
    refine Wi.seq (Wi.cond rfl (fun hc => ?_) (fun hc => ?_))
    · have hjl : j < n := by simpa using hc
      refine Wi.skip ?_
      obtain ⟨own1, hJ1, hk1, hs1, hg1, hlt1⟩ := hV
      have hp1 := hp.kp hk1 hg1 hlt1
      have hno1 : ∀ i, Value.ownBlock (.slice Al l.length m) = some i → 0 < l.length → ¬ own1 i := fun i hi hpos e => by
        rcases hg1 i e with e2 | e2
        · exact (ho i hi).1 e2
        · have := Sl.lt hs hpos hi; omega
      have hsl1 : SlI w1 (.slice Al l.length m) l := sl_kp' hs hk1 (fun hpos i hi e => hno1 i hi hpos e)
      refine Wi.seq (Wi.block (Wi.seq (Wi.regionN rfl rfl ?_)))
      (repeat (first | with_reducible refine Ops.nil ?_ | refine z_p (kk := ?_)))
      refine W.endl ?_
      have hd1 : ∀ (jj : Nat), done ++ visJ (visS n k) l (jj + 1) = done ++ visJ (visS n k) l jj ++ (if (jj : Int) ∈ l then [] else visS n k (l ++ [(jj : Int)])) := fun jj => by rw [visJ, List.append_assoc]
      refine Wi.seq (Wi.ordF (fun w' => Blk w' b3 #[extV b1 b2 b3] 88) [0, 1, 2, 3, 4, 5, 6, 7, 8, 9, 10, 11, 12, 13, 14, 15, 16, 17] rfl (by kernel_rfl) (by kernel_rfl) (by kernel_rfl) rfl (fun wr kr _ => ⟨hp1.h3.kp kr (fun e => e), ?_⟩))
      have B3r := hp1.h3.kp kr (fun e => e)
      have hslr := hsl1.kp kr (fun _ _ e => e)
      have hJr := hJk _ _ _ _ hJ1 kr
      have hpr : Pt b1 b2 b3 lp n cap A own1 wr := ⟨hp1.h1.kp kr (fun e => e), hp1.h2.kp kr (fun e => e), B3r, hp1.o1, hp1.o2, hp1.o3, fun x hx => by have := hp1.lt x hx; have := kr.size; omega⟩
      have hkr : Kp own1 w wr := (hk1.trans kr).mono (fun i _ e => by rcases e with e | e; exact e; exact e.elim)
      have hszr := kr.size
      have hsz1 := hk1.size
      have hlpr : lp < wr.heap.size := by omega
      (repeat (first | refine f_p (kk := ?_)))
      refine OrdF.one 2 (by kernel_rfl) rfl (Ops.callS rfl rfl rfl rfl rfl (contains_c hslr) (Ops.nil (W.endl ⟨B3r, ?_⟩)))
      by_cases hmm : (j : Int) ∈ l
      · rw [decide_eq_true hmm]
        (repeat (first | refine f_p (kk := ?_) | refine f_n (kk := ?_)))
        refine OrdF.done (by kernel_rfl) (W.endl ?_)
        refine Wi.cond rfl (fun hc => by cases hc) (fun hc => Wi.skip ?_)
        refine Wi.regionN rfl rfl ?_
        (repeat (first | with_reducible refine Ops.nil ?_ | refine z_p (kk := ?_) | refine z_a (kk := ?_)))
        refine W.endl ⟨_, _, ⟨⟨j + 1, rfl, by omega, rfl, ?_⟩, by omega⟩, (by repeat (first | exact trivial | refine And.intro rfl ?_))⟩
        rw [hd1, if_pos hmm, List.append_nil]
        exact ⟨own1, hJr, hkr, hs1, hg1, hpr.lt⟩
      · rw [decide_eq_false hmm]
        refine f_p (i := 3) (kk := ?_)
        refine f_p (i := 4) (kk := ?_)
        refine OrdF.take (by kernel_rfl) rfl rfl rfl rfl (fun w hF => EV.ld rfl rfl rfl (Blk.cell hF rfl)) ?_
        refine f_p (i := 6) (kk := ?_)
        refine f_p (i := 7) (kk := ?_)
        refine f_l (i := 8) (kk := ?_)
        refine f_p (i := 9) (kk := ?_)
        refine f_l (i := 10) (kk := ?_)
        refine OrdF.take (by kernel_rfl) rfl rfl rfl rfl (fun w _ => EV.sl3 rfl rfl rfl rfl rfl rfl hm) ?_
        refine f_p (i := 12) (kk := ?_)
        refine OrdF.one 13 (by kernel_rfl) rfl (Ops.yesB rfl rfl rfl rfl rfl (Ops.bs1 rfl rfl rfl rfl rfl rfl rfl rfl rfl (fun ws rb hMs => Ops.nil (W.endl ⟨B3r.kp hMs.kp (fun e => e), ?_⟩))))
        have hsls := hslr.kp hMs.kp (fun _ _ e => e)
        have hsl0 : SlI ws (.slice Al l.length l.length) l := by
          obtain ⟨q1, A', c', q2, q3⟩ := hsls
          cases q2
          exact ⟨q1, _, _, rfl, q3⟩
        have hnil : Al = none → l.length = 0 := fun e => by
          obtain ⟨q1, A', c', q2, q3⟩ := hsls
          cases q2
          rcases Nat.eq_zero_or_pos l.length with h | h
          · exact h
          · obtain ⟨a, ha, _⟩ := q3 h
            rw [e] at ha; cases ha
        refine OrdF.one 14 (by kernel_rfl) rfl (Ops.yesB rfl rfl rfl rfl rfl (Ops.appG (enc := Value.int .i64) (z0 := 0) (u := (j : Int)) rfl rfl rfl rfl rfl rfl rfl rfl rfl rfl hnil hsl0 (own_one hMs) (by omega) (fun lv wt hOt => Ops.nil (W.endl ⟨(B3r.kp hMs.kp (fun e => e)).kp (Kp.of_below (S := fun _ => False) hOt.bel) (fun e => e), ?_⟩))))
        have hkst : Kp (fun _ => False) wr wt := (hMs.kp.trans (Kp.of_below (S := fun _ => False) hOt.bel)).mono (fun _ _ e => by rcases e with e | e <;> exact e)
        have hsst := hkst.size
        have hszs := hMs.kp.size
        have hJt := hJk _ _ _ _ hJr hkst
        have hpt : Pt b1 b2 b3 lp n cap A own1 wt := ⟨hpr.h1.kp hkst (fun e => e), hpr.h2.kp hkst (fun e => e), hpr.h3.kp hkst (fun e => e), hpr.o1, hpr.o2, hpr.o3, fun x hx => by have := hpr.lt x hx; omega⟩
        have hkt : Kp own1 w wt := (hkr.trans hkst).mono (fun i _ e => by rcases e with e | e; exact e; exact e.elim)
        have hlen : (l ++ [(j : Int)]).length = l.length + 1 := by simp
        have hcap := hOt.own
        have hge := hOt.ge
        have hsl2 := hOt.sl (z := (0 : Int))
        obtain ⟨At, mt, rfl⟩ := hOt.sh
        have hpre2 : ∃ rest, done ++ visJ (visS n k) l j ++ visS n k (l ++ [(j : Int)]) ++ rest = allL n := by
          obtain ⟨rest, e⟩ := hpre
          obtain ⟨t, ht⟩ := visJ_split (f := visS n k) (l := l) (j := j + 1) n (by omega)
          have e2 : visS n (k + 1) l = visJ (visS n k) l n := rfl
          rw [e2, ht, visJ, if_neg hmm] at e
          exact ⟨t ++ rest, by rw [← e]; simp [List.append_assoc]⟩
        have hrec := callsIn_wide.1 (ih (l ++ [(j : Int)]) _ own1 wt At mt (by rw [hlen]; omega) (by rw [hlen]; exact beg_snoc hb hjl hmm) hpre2 hJt hpt (by omega) hsl2 (own_cap hcap) (fun i hi => ⟨fun e => by have := hpr.lt i e; have := hge i hi; omega, by have := hge i hi; omega⟩))
        refine OrdF.one 15 (by kernel_rfl) rfl (Ops.yesB rfl rfl rfl rfl rfl (Ops.call rfl rfl rfl rfl rfl hrec (fun rr wy hR => Ops.nil (W.endl ⟨?_, ?_⟩))))
        · obtain ⟨-, own2, q1, q2, q3, q4, q5⟩ := hR
          exact (hpt.kp q2 q4 q5).h3
        obtain ⟨rfl, hVd⟩ := hR
        refine f_p (i := 16) (kk := ?_)
        refine f_p (i := 17) (kk := ?_)
        refine OrdF.done (by kernel_rfl) (W.endl ?_)
        refine Wi.cond rfl (fun hc => by cases hc) (fun hc => Wi.skip ?_)
        refine Wi.regionN rfl rfl ?_
        (repeat (first | with_reducible refine Ops.nil ?_ | refine z_p (kk := ?_) | refine z_a (kk := ?_)))
        refine W.endl ⟨_, _, ⟨⟨j + 1, rfl, by omega, rfl, ?_⟩, by omega⟩, (by repeat (first | exact trivial | refine And.intro rfl ?_))⟩
        rw [hd1, if_neg hmm]
        exact Vd.via hkt hs1 hg1 hVd
    · have : j = n := by simp at hc; omega
      subst this
      refine Wi.exit ?_
      show ite _ _ _
      rw [if_pos rfl]
      refine Wi.seq (Wi.regionN rfl rfl ?_)
      (repeat (first | with_reducible refine Ops.nil ?_ | refine z_p (kk := ?_)))
      refine W.endl ?_
      refine Wi.ret ?_
      exact ⟨.inr rfl, _, rfl, rfl, hV⟩
end Go.Proofs.Ytehjmakiljhjdaa
namespace Go.Proofs.Ytehjmakiljhjdaa
open Go Go.RowKit Go.Proofs.Ytehjmakiljhjdaa.VW
attribute [local irreducible] W Ops OrdA VW.Ord OrdX Wi OpsI OrdF
theorem all_c {w : World} {cv : Value} : Calls Try.prog 71 #[cv] w (Ret fun r w' => ∃ b, r = .func (.func 90) #[] #[.pointer (some ⟨b, 0, none⟩)] ∧ w'.heap[b]? = some (.cells cv.cells 71 (0, 0)) ∧ w.heap.size ≤ b ∧ Below w.heap.size w w') := by
  refine calls_W (vs := [_]) Try.func71 rfl (by kernel_rfl) rfl ?_
  (repeat (first | with_reducible refine W.seq ?_ | with_reducible refine W.region ?_))
  refine Ops.box rfl rfl rfl rfl (fun w1 b hb => ?_)
  (repeat (first | with_reducible refine W.seq ?_ | with_reducible refine Ops.nil ?_ | with_reducible refine W.region ?_ | refine z_p (kk := ?_)))
  exact W.fret rfl ⟨b, rfl, hb.at_, by rw [hb.r_eq]; exact Nat.le_refl _, Below.put (Below.refl _ _) hb.kp (fun _ e => e.elim)⟩
set_option maxHeartbeats 2000000 in
theorem all1_in {b1 lp n cap : Nat} {A : Option Addr} {J : List (List Int) → (Nat → Prop) → World → Prop} (hn : n ≤ 7)
    (hJk : ∀ done own W W', J done own W → Kp (fun _ => False) W W' → J done own W')
    (hyes : ∀ done own a A m W, J done own W → (∃ rest, done ++ [a] ++ rest = allL n) → Asg a n → SlI W (.slice A a.length m) a → a.length ≤ m → (∀ i, Value.ownBlock (.slice A a.length m) = some i → ¬ own i ∧ lp < i) → (∀ x, own x → x < W.heap.size) → YieldAt (Fw none) 0 Try.prog lp #[.slice A a.length m] W (fun e W' => e = .returned (.bool true) ∧ Vd J (done ++ [a]) own W W'))
    {w : World} {own : Nat → Prop} (hB : Blk w b1 #[.slice A n cap] 71) (hob : ¬ own b1) (hol : ∀ x, own x → x < w.heap.size) (hlp : lp < w.heap.size) (h0 : J [] own w) :
    CallsIn (Fw none) 0 Try.prog 90 #[.func (.yield lp) #[] #[], .pointer (some ⟨b1, 0, none⟩)] w (Ret fun v w' => Vd J (allL n) own w w') := by
  refine callsIn_Wi (vs := [_, _]) Try.func90 rfl rfl ?_
  refine Wi.seq (Wi.regionN rfl rfl ?_)
  skip
  refine Ops.box rfl rfl rfl rfl (fun w1 b2 hM2 => ?_)
  refine Ops.nil (W.endl ?_)
  refine Wi.seq (Wi.regionN rfl rfl ?_)
  refine Ops.alloc rfl rfl rfl rfl (fun w2 b3 hM3 => ?_)
  refine Ops.nil (W.endl ?_)
  refine Wi.seq (Wi.regionN rfl rfl ?_)
  (repeat (first | refine z_p (kk := ?_)))
  refine Ops.st rfl rfl rfl rfl rfl rfl rfl hM3.at_ (by exact Nat.zero_lt_one) (fun w3 hu3 => ?_)
  refine Ops.nil (W.endl ?_)
  have e2 := hM2.r_eq
  have e3 := hM3.r_eq
  have s2 := hM2.size
  have s3 := hM3.size
  have su := hu3.size
  have hb1lt := hB.lt
  have B3 : Blk w3 b3 #[extV b1 b2 b3] 88 := hu3.blk
  have B2 : Blk w3 b2 #[.func (.yield lp) #[] #[]] 88 := (Blk.kp hM2.at_ hM3.kp (fun e => e)).kp hu3.kp (fun e => by omega)
  have B1 : Blk w3 b1 #[.slice A n cap] 71 := ((hB.kp hM2.kp (fun e => e)).kp hM3.kp (fun e => e)).kp hu3.kp (fun e => by omega)
  have hbel : Below w.heap.size w w3 := Below.put (Below.put (Below.put (Below.refl _ _) hM2.kp (fun _ e => e.elim)) hM3.kp (fun _ e => e.elim)) hu3.kp (fun i e => by omega)
  have hb33 : Below w3.heap.size w3 w3 := Below.refl _ _
  have hk : Kp (fun _ => False) w w3 := Kp.of_below hbel
  have hp : Pt b1 b2 b3 lp n cap A own w3 := ⟨B1, B2, B3, hob, fun e => by have := hol _ e; omega, fun e => by have := hol _ e; omega, fun x hx => by have := hol x hx; omega⟩
  have hbeg : Beg [] n ([] : List Int).length := ⟨rfl, fun x hx => by simp at hx, by simp⟩
  have hrec := callsIn_wide.1 (ext_in hn hJk hyes n [] [] own w3 none 0 (by simp) hbeg ⟨[], by rw [vis_all]; simp⟩ (hJk _ _ _ _ h0 hk) hp (by omega) (Sl.nil _ _ _ _ _) (Nat.le_refl _) (fun i hi => by simp [Value.ownBlock] at hi))
  refine Wi.regionN rfl rfl ?_
  (repeat (first | refine z_d (kk := ?_)))
  refine Ops.call rfl rfl rfl rfl rfl hrec (fun rr wy hR => ?_)
  refine Ops.nil (W.endl ?_)
  obtain ⟨-, hVd⟩ := hR
  rw [List.nil_append, vis_all] at hVd
  refine ⟨.inl rfl, _, rfl, ?_⟩
  obtain ⟨own', q1, q2, q3, q4, q5⟩ := hVd
  exact ⟨own', q1, (hk.trans q2).mono (fun i _ e => by rcases e with e | e; exact e.elim; exact e), q3, fun x hx => (q4 x hx).imp id (fun e => by omega), q5⟩
/-- for l := range c.all(): 'I done own' before a visit; own: what a round may write. -/
theorem JW.alls {wE : World} {b1 n cap id p nT : Nat} {gx : Operand} {A : Option Addr} {assign body c2 : Code} {Φ : Post} {ds : List Deferred} {ρ : E} {I : List (List Int) → (Nat → Prop) → World → Prop} {own0 : Nat → Prop} (hn : n ≤ 7)
    (hg : ev ρ gx = some (.func (.func 90) #[] #[.pointer (some ⟨b1, 0, none⟩)])) (hi2 : inB nT c2 = true) (hp : Nat.blt p nT = true)
    (hB : Blk wE b1 #[.slice A n cap] 71) (hob : ¬ own0 b1) (hol : ∀ x, own0 x → x < wE.heap.size)
    (hIk : ∀ done own W W', I done own W → Kp (fun k => k = wE.heap.size ∨ k = wE.heap.size + 1) W W' → I done own W') (h0 : I [] own0 wE)
    (hround : ∀ L done own a A m W, L = wE.heap.size + 1 → I done own W → (∃ rest, done ++ [a] ++ rest = allL n) → Asg a n → SlI W (.slice A a.length m) a → a.length ≤ m → (∀ i, Value.ownBlock (.slice A a.length m) = some i → ¬ own i ∧ wE.heap.size + 1 < i) → wE.heap.size + 2 ≤ W.heap.size →
      Wi (some L) Try.prog nT [] assign (fun e ρ1 w1 => e = .normal ∧ w1 = W ∧ ∀ W', I done own W' → SlI W' (.slice A a.length m) a → W'.heap.size = W.heap.size → Wi (some L) Try.prog nT [] body (fun e ρ2 w2 => e = .normal ∧ ∃ own', I (done ++ [a]) own' w2 ∧ Kp own' W' w2 ∧ (∀ x, own x → own' x) ∧ (∀ x, own' x → own x ∨ W'.heap.size ≤ x) ∧ ∀ x, own' x → x < w2.heap.size) ρ1 W') ((p, .slice A a.length m) :: ρ) W)
    (hdone : ∀ D W3 own, D = wE.heap.size → I (allL n) own W3 → W3.heap[D]? = some (.deferred (some [])) → W Try.prog nT ({ target := .collected D, args := #[] } :: ds) [.code c2] (fun e ρ w => e = .ret ∧ w.heap[D]? = some (.deferred (some [])) ∧ Φ .ret ρ (w.putObj D (.deferred none))) ρ W3) :
    JW Try.prog nT ds Φ c2 (.block id (.rangeFunc gx #[p] assign body)) ρ wE := by
  refine JW.range (lb := [.pointer (some ⟨b1, 0, none⟩)]) (gf := 90) hg (Fns.call (P := Try.prog) (by exact rfl)) hi2 (fun fn tmps hrep D W1 hD hW1 => ?_)
  subst hD hW1
  have ka := (mk_alloc wE (.deferred (some []))).kp
  have kb := (mk_alloc (wE.alloc (.deferred (some []))) (.loop (loopRec fn tmps #[p] assign body wE.heap.size))).kp
  have h1 := hIk _ _ _ _ h0 ((ka.trans kb).mono fun k _ e => by rcases e with e | e <;> exact e.elim)
  have hsz : (wE.alloc (.deferred (some []))).heap.size = wE.heap.size + 1 := (mk_alloc wE _).size
  have hsz2 : ((wE.alloc (.deferred (some []))).alloc (.loop (loopRec fn tmps #[p] assign body wE.heap.size))).heap.size = wE.heap.size + 2 := by rw [(mk_alloc (wE.alloc (.deferred (some []))) _).size, hsz]
  have hD1 : ((wE.alloc (.deferred (some []))).alloc (.loop (loopRec fn tmps #[p] assign body wE.heap.size))).heap[wE.heap.size]? = some (.deferred (some [])) := at_kp (mk_alloc wE (.deferred (some []))).at_ kb (fun e => e)
  have hL1 : ((wE.alloc (.deferred (some []))).alloc (.loop (loopRec fn tmps #[p] assign body wE.heap.size))).heap[wE.heap.size + 1]? = some (.loop (loopRec fn tmps #[p] assign body wE.heap.size)) := by
    have := (mk_alloc (wE.alloc (.deferred (some []))) (.loop (loopRec fn tmps #[p] assign body wE.heap.size))).at_
    rw [hsz] at this
    exact this
  have hB1 : Blk ((wE.alloc (.deferred (some []))).alloc (.loop (loopRec fn tmps #[p] assign body wE.heap.size))) b1 #[.slice A n cap] 71 := (hB.kp ka (fun e => e)).kp kb (fun e => e)
  refine CallsIn.mono (all1_in (lp := wE.heap.size + 1) (own := fun x => own0 x ∨ x = wE.heap.size + 1) hn (J := fun done own W => ∃ own1, (∀ x, own x ↔ own1 x ∨ x = wE.heap.size + 1) ∧ (∀ x, own1 x → x ≠ wE.heap.size ∧ x ≠ wE.heap.size + 1) ∧ I done own1 W ∧ W.heap[wE.heap.size]? = some (.deferred (some [])) ∧ W.heap[wE.heap.size + 1]? = some (.loop (loopRec fn tmps #[p] assign body wE.heap.size)))
    (fun done own W W' h k => ?_) (fun done own a Aa m W h hpre hA hs hm ho hlt => ?_) hB1 (fun e => by have := hB.lt; rcases e with e | e; exact hob e; omega) (fun x hx => by rw [hsz2]; rcases hx with e | e; have := hol x e; omega; omega) (by rw [hsz2]; omega) ⟨own0, fun x => Iff.rfl, fun x hx => by have := hol x hx; omega, h1, hD1, hL1⟩) ?_
  · obtain ⟨own1, q1, q2, q3, q4, q5⟩ := h
    exact ⟨own1, q1, q2, hIk _ _ _ _ q3 (k.mono fun _ _ e => e.elim), at_kp q4 k (fun e => e), at_kp q5 k (fun e => e)⟩
  · obtain ⟨own1, q1, q2, q3, q4, q5⟩ := h
    have hLlt := (Array.getElem?_eq_some_iff.1 q5).1
    refine round_in q5 hrep hp ((hround _ done own1 a Aa m W rfl q3 hpre hA hs hm (fun i hi => ⟨fun e => (ho i hi).1 ((q1 i).2 (.inl e)), (ho i hi).2⟩) (by omega)).mono ?_)
    rintro e ρ1 w1 ⟨rfl, rfl, hb⟩
    refine ⟨rfl, _, q5, rfl, ?_⟩
    have hk := kp_putObj (w := w1) (r := wE.heap.size + 1) (.loop { (loopRec fn tmps #[p] assign body wE.heap.size) with state := .busy })
    have hks : (w1.putObj (wE.heap.size + 1) (.loop { (loopRec fn tmps #[p] assign body wE.heap.size) with state := .busy })).heap.size = w1.heap.size := by simp [World.putObj]
    have hsk : SlI (w1.putObj (wE.heap.size + 1) (.loop { (loopRec fn tmps #[p] assign body wE.heap.size) with state := .busy })) (.slice Aa a.length m) a := Sl.kp hs hk (fun i hi e => by have := (ho i hi).2; omega)
    refine (hb _ (hIk _ _ _ _ q3 (hk.mono fun k _ e => .inr e)) hsk hks).mono ?_
    rintro e ρ2 w2 ⟨rfl, own2, r1, r2, r3, r4, r5⟩
    have hne : ∀ x, own2 x → x ≠ wE.heap.size ∧ x ≠ wE.heap.size + 1 := fun x hx => by
      rcases r4 x hx with e | e
      · exact q2 x e
      · rw [hks] at e; omega
    have hl2 : w2.heap[wE.heap.size + 1]? = some (.loop { (loopRec fn tmps #[p] assign body wE.heap.size) with state := .busy }) := at_kp (World.putObj_heap_same hLlt) r2 (fun e => (hne _ e).2 rfl)
    have hd2 : w2.heap[wE.heap.size]? = some (.deferred (some [])) := at_kp (at_kp q4 hk (fun e => by omega)) r2 (fun e => (hne _ e).1 rfl)
    have hlt2 := (Array.getElem?_eq_some_iff.1 hl2).1
    have hk3 := kp_putObj (w := w2) (r := wE.heap.size + 1) (.loop (loopRec fn tmps #[p] assign body wE.heap.size))
    refine ⟨rfl, _, hl2, rfl, fun x => own2 x ∨ x = wE.heap.size + 1, ⟨own2, fun x => Iff.rfl, hne, hIk _ _ _ _ r1 (hk3.mono fun k _ e => .inr e), at_kp hd2 hk3 (fun e => by omega), World.putObj_heap_same hlt2⟩, ?_, fun x hx => ?_, fun x hx => ?_, fun x hx => ?_⟩
    · exact ((hk.trans r2).trans hk3).mono (fun i _ e => by rcases e with (e | e) | e; exact .inr e; exact .inl e; exact .inr e)
    · rcases (q1 x).1 hx with e | e
      · exact .inl (r3 x e)
      · exact .inr e
    · rcases hx with e | e
      · rcases r4 x e with e2 | e2
        · exact .inl ((q1 x).2 (.inl e2))
        · rw [hks] at e2; exact .inr e2
      · exact .inl ((q1 x).2 (.inr e))
    · have hk3s : (w2.putObj (wE.heap.size + 1) (.loop (loopRec fn tmps #[p] assign body wE.heap.size))).heap.size = w2.heap.size := by simp [World.putObj]
      show x < (w2.putObj _ _).heap.size
      rw [hk3s]
      rcases hx with e | e
      · exact r5 x e
      · omega
  · rintro e W2 ⟨v, rfl, own', ⟨own1, q1, q2, q3, q4, q5⟩, k1, k2, k3, k4⟩
    refine ⟨v, rfl, _, q5, rfl, rfl, q4, ?_⟩
    rintro W3 rfl
    have hk3 := kp_putObj (w := W2) (r := wE.heap.size + 1) (.loop { (loopRec fn tmps #[p] assign body wE.heap.size) with state := .exhausted })
    exact hdone _ _ own1 rfl (hIk _ _ _ _ q3 (hk3.mono fun k _ e => .inr e)) (at_kp q4 hk3 (fun e => by omega))
end Go.Proofs.Ytehjmakiljhjdaa
namespace Go.Proofs.Ytehjmakiljhjdaa
open Go Go.RowKit Go.Proofs.Ytehjmakiljhjdaa.VW
attribute [local irreducible] W Ops OrdA VW.Ord OrdX Wi OpsI OrdF
def cnL (p : List Int → Bool) (L : List (List Int)) : Nat := (L.filter p).length
theorem cnL_snoc (p : List Int → Bool) (L : List (List Int)) (a : List Int) : cnL p (L ++ [a]) = cnL p L + if p a = true then 1 else 0 := by
  unfold cnL
  rw [List.filter_append, List.length_append]
  congr 1
  by_cases h : p a <;> simp [h]
theorem cnL_le (p : List Int → Bool) (L : List (List Int)) : cnL p L ≤ L.length := List.length_filter_le _ _
def leT (c : List (List Int)) (most : Int) (a : List Int) : Bool := decide (totP c a c.length ≤ most)
set_option maxHeartbeats 2000000 in
theorem Within_c {w : World} {cv : Value} {c : List (List Int)} {most : Int} (hM : RowsM w cv c) :
    Calls Try.prog 42 #[cv, .int .i64 most] w (Ret fun r w' => r = (if costsB c = true then .tuple #[.int .i64 (cnL (leT c most) (allL c.length) : Nat), .int .i64 0] else .tuple #[.int .i64 0, .int .i64 2]) ∧ Below w.heap.size w w') := by
  obtain ⟨Ac, cc, rfl⟩ := hM.sl
  refine calls_W (vs := [_, _]) Try.func42 rfl (by kernel_rfl) rfl ?_
  (repeat (first | with_reducible refine W.seq ?_ | with_reducible refine W.region ?_))
  refine Ops.box rfl rfl rfl rfl (fun w1 b2 hM2 => ?_)
  refine Ops.box rfl rfl rfl rfl (fun w2 b3 hM3 => ?_)
  have h12 := Mk.bel hM2
  have h23 := Mk.bel hM3
  have e2 := hM2.r_eq
  have e3 := hM3.r_eq
  have s2 := hM2.size
  have s3 := hM3.size
  have hb : Below w.heap.size w w2 := Below.via h12 h23
  have B2 : Blk w2 b2 #[.slice Ac c.length cc] 22 := Blk.kp hM2.at_ (Kp.of_below (S := fun _ => False) h23) (fun e => e)
  have B3 : Blk w2 b3 #[.int .i64 most] 3 := hM3.at_
  have hM' := hM.below hb
  have hb22 : Below w2.heap.size w2 w2 := Below.refl _ _
  (repeat (first | with_reducible refine W.seq ?_ | with_reducible refine Ops.nil ?_ | with_reducible refine W.region ?_ | refine z_p (kk := ?_) | refine z_d (kk := ?_)))
  refine Ops.call rfl rfl rfl rfl rfl (areCosts_c hM') (fun r w4 hR => ?_)
  obtain ⟨rfl, hb4⟩ := hR
  have hb04 := Below.via hb hb4
  cases hc : costsB c with
  | false =>
    (repeat (first | with_reducible refine Ops.nil ?_ | refine z_p (kk := ?_)))
    refine W.condT rfl (by first | rfl | assumption | (simp only [bnf] <;> omega) | (simp only [*, bnf]; done) | fail) ?_
    (repeat (first | with_reducible refine W.seq ?_ | with_reducible refine Ops.nil ?_ | with_reducible refine W.region ?_ | refine z_p (kk := ?_)))
    refine W.fret rfl ⟨?_, hb04⟩
    rw [if_neg (by simp)]
    rfl
  | true =>
    have hC := costs_iff.1 hc
    have hn7 := hC.n7
    have hL := levL_lt (n := c.length) (i := c.length) hn7 hn7
    change (allL c.length).length ≤ 823543 at hL
    rw [if_pos rfl]
    (repeat (first | with_reducible refine Ops.nil ?_ | refine z_p (kk := ?_)))
    refine W.condF rfl (by first | rfl | assumption | (simp only [bnf] <;> omega) | (simp only [*, bnf]; done) | fail) ?_
    (repeat (first | with_reducible refine W.seq ?_ | with_reducible refine W.region ?_ | with_reducible refine W.skip ?_))
    refine Ops.alloc rfl rfl rfl rfl (fun w5 b6 hM6 => ?_)
    have h45 := Mk.bel hM6
    have e6 := hM6.r_eq
    have s6 := hM6.size
    refine Ops.st rfl rfl rfl rfl rfl rfl rfl hM6.at_ (by exact Nat.zero_lt_one) (fun w6 hu6 => ?_)
    have B6 : Blk w6 b6 #[.int .i64 0] 3 := hu6.blk
    have hb26 : Below w2.heap.size w2 w6 := Below.put (Below.via hb4 h45) hu6.kp (fun i e => by have := hb4.size; omega)
    refine Ops.nil ?_
    refine W.toJ (JW.seq (by exact rfl) ?_)
    (repeat (first | with_reducible refine W.region ?_ | refine z_D (kk := ?_)))
    refine Ops.call rfl rfl rfl rfl rfl all_c (fun rv wE hR => ?_)
    obtain ⟨b90, rfl, hB90, hge, hlE⟩ := hR
    have hb2E := Below.via hb26 hlE
    have hb0E := Below.via hb hb2E
    have B6E : Blk wE b6 #[.int .i64 0] 3 := B6.kp (Kp.of_below (S := fun _ => False) hlE) (fun e => e)
    have B2E : Blk wE b2 #[.slice Ac c.length cc] 22 := B2.kp (Kp.of_below (S := fun _ => False) hb2E) (fun e => e)
    have B3E : Blk wE b3 #[.int .i64 most] 3 := B3.kp (Kp.of_below (S := fun _ => False) hb2E) (fun e => e)
    have hB90' : Blk wE b90 #[.slice Ac c.length cc] 71 := hB90
    have hME := hM'.below hb2E
    have g6 := B6.lt
    have g6E := B6E.lt
    have g2E := B2E.lt
    have g3E := B3E.lt
    have s26 := hb26.size
    have s4 := hb4.size
    refine Ops.nil (W.endl ?_)
    refine JW.sub (ρ' := [(2, .pointer (some ⟨b2, 0, none⟩)), (3, .pointer (some ⟨b3, 0, none⟩)), (6, .pointer (some ⟨b6, 0, none⟩)), (12, .func (.func 90) #[] #[.pointer (some ⟨b90, 0, none⟩)])]) (by repeat (first | exact trivial | refine And.intro rfl ?_)) ?_
    refine JW.alls (b1 := b90) (n := c.length) (A := Ac) (cap := cc) (own0 := fun k => k = b6) (I := fun done own W => (∀ k, own k ↔ k = b6) ∧ Kp (fun k => k = b6) wE W ∧ Blk W b6 #[.int .i64 (cnL (leT c most) done : Nat)] 3)
      hn7 rfl (by exact rfl) (by exact rfl) hB90' (by omega) (fun x hx => by omega) (fun done own W W' h k => ?_) ⟨fun k => Iff.rfl, Kp.of_below (Below.refl _ _), B6E⟩ (fun L done own a A m wp hL2 h hpre hA hs hm ho hW => ?_) (fun D w9 own hD h hdf => ?_)
    · obtain ⟨q1, q2, q3⟩ := h
      exact ⟨q1, (q2.trans k).mono (fun i hi e => by omega), q3.kp k (fun e => by omega)⟩
    · refine Wi.regionN rfl rfl ?_
      (repeat (first | with_reducible refine Ops.nil ?_ | refine z_p (kk := ?_)))
      refine W.endl ⟨rfl, rfl, fun wq h' hsq hwq => ?_⟩
      obtain ⟨q1, q2, q3⟩ := h'
      have B2q := B2E.kp q2 (fun e => by omega)
      have B3q := B3E.kp q2 (fun e => by omega)
      have hMq : RowsM wq (.slice Ac c.length cc) c := by
        have hbel : Below w.heap.size w wq := Below.put hb0E q2 (fun i e => by have := hb.size; omega)
        exact hM.below hbel
      have hbqq : Below wq.heap.size wq wq := Below.refl _ _
      have hdl : done.length < 823543 := by
        obtain ⟨rest, e⟩ := hpre
        have := congrArg List.length e
        simp at this
        omega
      have hcl := cnL_le (leT c most) done
      have hsn := cnL_snoc (leT c most) done a
      have hal := hA.1
      refine Wi.block (Wi.seq (Wi.ordA 99 [(0, 2), (1, 1), (2, 2), (3, 2), (4, 1)] rfl (by kernel_rfl) (by kernel_rfl) (by kernel_rfl) rfl (by kernel_rfl) ?_))
      (repeat (first | refine x_p (kk := ?_) | refine x_D (kk := ?_)))
      refine OrdA.call rfl rfl rfl rfl rfl rfl rfl (fun w' hw' => Calls.same hw' (total_c (hMq.below hw') hC (Sl.below hsq hw') (fun q hq => (hA.2 q hq).1) (by rw [hal]; exact Nat.le_refl _))) ?_
      rw [hal]
      (repeat (first | refine x_p (kk := ?_) | refine x_D (kk := ?_)))
      refine OrdA.nil (fun wr hbr => W.endl ?_)
      have q3r := q3.kp (Kp.of_below (S := fun _ => False) hbr) (fun e => e)
      refine Wi.cond rfl (fun hc => ?_) (fun hc => Wi.skip ⟨rfl, own, ⟨q1, (q2.trans (Kp.of_below (S := fun k => k = b6) hbr)).mono (fun i hi e => by omega), ?_⟩, Kp.of_below hbr, fun x h => h, fun x h => .inl h, fun x h => by have := (q1 x).1 h; have := hbr.size; have := q3.lt; omega⟩)
      · have hp : leT c most a = true := hc
        rw [hp, if_pos rfl] at hsn
        refine Wi.regionN rfl rfl ?_
        (repeat (first | refine z_a (kk := ?_) | refine z_d (kk := ?_)))
        refine Ops.st rfl rfl rfl rfl rfl rfl rfl q3r (by simp) (fun ws hus => Ops.nil (W.endl ?_))
        have hkk : Kp (fun k => k = b6) wq ws := ((Kp.of_below (S := fun k => k = b6) hbr).trans hus.kp).mono (fun i hi e => by rcases e with e | e <;> exact e)
        refine ⟨rfl, own, ⟨q1, (q2.trans hkk).mono (fun i hi e => by rcases e with e | e <;> exact e), ?_⟩, hkk.mono (fun i hi e => (q1 i).2 e), fun x h => h, fun x h => .inl h, fun x h => by have := (q1 x).1 h; have := hkk.size; have := q3.lt; omega⟩
        rw [hsn]
        simpa using hus.blk
      · have hp : leT c most a = false := hc
        rw [hsn, hp, if_neg (by simp), Nat.add_zero]
        exact q3r
    · obtain ⟨q1, q2, q3⟩ := h
      have hb99 : Below w9.heap.size w9 w9 := Below.refl _ _
      (repeat (first | with_reducible refine W.seq ?_ | with_reducible refine Ops.nil ?_ | with_reducible refine W.region ?_ | refine z_p (kk := ?_) | refine z_d (kk := ?_)))
      refine W.ret ⟨rfl, hdf, _, fun a hr => run_results hr rfl, rfl, ?_⟩
      exact Below.put (Below.put hb0E q2 (fun i e => by have := hb.size; omega)) (kp_putObj (r := D) (.deferred none)) (fun k e => by have := hb0E.size; omega)
end Go.Proofs.Ytehjmakiljhjdaa
