/- A part of the walk: what this seat's statements share. -/
import Derived.Test.YtehjmakiljhjdaaZG12
import Derived.Test.YtehjmakiljhjdaaZG11
import Derived.Test.YtehjmakiljhjdaaZG10
import Derived.Test.YtehjmakiljhjdaaZG6
import Derived.Test.YtehjmakiljhjdaaZG9
import Derived.Test.YtehjmakiljhjdaaZG8
set_option linter.unusedVariables false
set_option linter.unusedSimpArgs false
set_option linter.unusedSectionVars false
namespace Go.Proofs.Ytehjmakiljhjdaa
open Go Go.RowKit Go.Proofs.Ytehjmakiljhjdaa.VW
attribute [local irreducible] W Ops OrdA VW.Ord OrdX Wi OpsI OrdF
theorem Collect_c {w : World} {b1 n cap : Nat} {A : Option Addr} (hn : n ≤ 7) (hn0 : 0 < n) (hB : Blk w b1 #[.slice A n cap] 71) :
    Calls Try.prog 79 #[.func (.func 90) #[] #[.pointer (some ⟨b1, 0, none⟩)]] w (Ret fun r w' => ∃ vs, RS w w' r vs (allL n)) := by
  refine calls_W (vs := [_]) Try.func79 rfl (by kernel_rfl) rfl ?_
  (repeat (first | with_reducible refine W.seq ?_ | with_reducible refine Ops.nil ?_ | with_reducible refine W.region ?_ | refine z_p (kk := ?_)))
  refine Ops.call rfl rfl rfl rfl rfl (AppendSeq_c hn hn0 hB) (fun r w1 hR => ?_)
  (repeat (first | with_reducible refine Ops.nil ?_ | refine z_p (kk := ?_)))
  exact W.fret rfl hR
set_option maxHeartbeats 2000000 in
theorem Item_c {w : World} {cv : Value} {c : List (List Int)} {k : Int} (hM : RowsM w cv c) :
    Calls Try.prog 48 #[cv, .int .i64 k] w (Ret fun r w' => Below w.heap.size w w' ∧
      ((costsB c = true ∧ 0 ≤ k ∧ k < (allL c.length).length → ∃ v p, r = .tuple #[v, .int .i64 0] ∧ p < (allL c.length).length ∧ rank c p = k.toNat ∧ Arg w' v ((allL c.length).getD p [])) ∧
       (¬ (costsB c = true ∧ 0 ≤ k ∧ k < (allL c.length).length) → r = .tuple #[.slice none 0 0, .int .i64 2]))) := by
  obtain ⟨Ac, cc, rfl⟩ := hM.sl
  refine calls_W (vs := [_, _]) Try.func48 rfl (by kernel_rfl) rfl ?_
  (repeat (first | with_reducible refine W.seq ?_ | with_reducible refine W.region ?_))
  refine Ops.box rfl rfl rfl rfl (fun w1 b2 hM2 => ?_)
  have e2 := hM2.r_eq
  have s2 := hM2.size
  have hb : Below w.heap.size w w1 := Mk.bel hM2
  have B2 : Blk w1 b2 #[.slice Ac c.length cc] 22 := hM2.at_
  have hM1 := hM.below hb
  have hb11 : Below w1.heap.size w1 w1 := Below.refl _ _
  (repeat (first | with_reducible refine W.seq ?_ | with_reducible refine Ops.nil ?_ | with_reducible refine W.region ?_ | refine z_p (kk := ?_) | refine z_d (kk := ?_)))
  refine Ops.call rfl rfl rfl rfl rfl (areCosts_c hM1) (fun r w2 hR => ?_)
  obtain ⟨rfl, hb2⟩ := hR
  have hb02 := Below.via hb hb2
  cases hc : costsB c with
  | false =>
    (repeat (first | with_reducible refine Ops.nil ?_ | refine z_p (kk := ?_)))
    refine W.condT rfl (by first | rfl | assumption | (simp only [bnf] <;> omega) | (simp only [*, bnf]; done) | fail) ?_
    (repeat (first | with_reducible refine W.seq ?_ | with_reducible refine Ops.nil ?_ | with_reducible refine W.region ?_ | refine z_p (kk := ?_)))
    exact W.fret rfl ⟨hb02, fun h => by simp at h, fun _ => rfl⟩
  | true =>
    have hC := costs_iff.1 hc
    have hn7 := hC.n7
    have hn1 := hC.n1
    have hL := levL_lt (n := c.length) (i := c.length) hn7 hn7
    have hpos := allL_pos (n := c.length)
    change (allL c.length).length ≤ 823543 at hL
    (repeat (first | with_reducible refine Ops.nil ?_ | refine z_p (kk := ?_)))
    refine W.condF rfl (by first | rfl | assumption | (simp only [bnf] <;> omega) | (simp only [*, bnf]; done) | fail) ?_
    (repeat (first | with_reducible refine W.seq ?_ | with_reducible refine W.region ?_ | with_reducible refine W.skip ?_ | refine z_D (kk := ?_)))
    refine Ops.call rfl rfl rfl rfl rfl all_c (fun rv wE hR => ?_)
    obtain ⟨b90, rfl, hB90, hge, hlE⟩ := hR
    have hB90' : Blk wE b90 #[.slice Ac c.length cc] 71 := hB90
    skip
    refine Ops.call rfl rfl rfl rfl rfl (Collect_c hn7 (by omega) hB90') (fun ov w4 hR => ?_)
    obtain ⟨vs, hRS⟩ := hR
    have hb04 := Below.via (Below.via hb02 hlE) hRS.o.bel
    have hvl := hRS.len
    have hown : w4.ownsRow 0 23 1 ov (allL c.length).length vs := by
      have := hRS.o.own
      rw [hvl] at this
      simpa using this
    obtain ⟨Ao, co, rfl⟩ : ∃ Ao co, ov = .slice Ao (allL c.length).length co := by
      rcases hown.2 with ⟨e, h0⟩ | ⟨g, cap, cur, e, _⟩
      · omega
      · exact ⟨_, _, e⟩
    (repeat (first | with_reducible refine W.seq ?_ | with_reducible refine Ops.nil ?_ | with_reducible refine W.region ?_ | refine z_p (kk := ?_) | refine z_a (kk := ?_) | refine z_l (kk := ?_)))
    refine Ops.callS rfl rfl rfl rfl rfl (within_c _ _ _ _) ?_
    by_cases hin : 0 ≤ k ∧ k < (allL c.length).length
    · have hir : inR k 0 ((allL c.length).length - 1) = true := by simp [inR]; omega
      rw [hir]
      have hb14 : Below w1.heap.size w1 w4 := Below.via (Below.via hb2 hlE) hRS.o.bel
      have B24 : Blk w4 b2 #[.slice Ac c.length cc] 22 := B2.kp (Kp.of_below (S := fun _ => False) hb14) (fun e => e)
      have hgeo : ∀ i, (Value.slice Ao (allL c.length).length co).ownBlock = some i → wE.heap.size ≤ i := hRS.o.ge
      have hbE := (Below.via hb2 hlE).size
      have hsort := sortF_c hC hown B24 (fun e => by have := hgeo _ e; omega) (fun W hk => hM.below (Below.put hb04 hk (fun i e => by have := hgeo _ e; have := hb.size; omega))) (fun q hq W hk => Sl.kp (hRS.rows q hq) hk (fun i hi e => (hRS.ge q hq i hi).2 e)) (by omega) hpos
      (repeat (first | with_reducible refine Ops.nil ?_ | refine z_p (kk := ?_)))
      refine W.condF rfl (by first | rfl | assumption | (simp only [bnf] <;> omega) | (simp only [*, bnf]; done) | fail) ?_
      (repeat (first | with_reducible refine W.seq ?_ | with_reducible refine W.region ?_ | refine z_p (kk := ?_) | with_reducible refine W.skip ?_))
      refine Ops.call rfl rfl rfl rfl rfl hsort (fun r w5 hR => ?_)
      obtain ⟨rfl, hk5, vs', hown5, hrk⟩ := hR
      have hl5 : vs'.length = (allL c.length).length := by have := hown5.1; omega
      have hb05 : Below w.heap.size w w5 := Below.put hb04 hk5 (fun i e => by have := hgeo _ e; have := hb.size; omega)
      have hsl5 : Sl (fun v : Value => v) undef w5 (.slice Ao (allL c.length).length co) vs' := own_sl (e := 23) (by rw [hl5]; simpa using hown5)
      obtain ⟨p, hp, hpk, hpe⟩ := hrk k.toNat (by omega)
      have hsp : SlI w5 (vs.getD p undef) ((allL c.length).getD p []) := Sl.kp (hRS.rows p hp) hk5 (fun i hi e => (hRS.ge p hp i hi).2 e)
      have hcp := hRS.cap p hp
      rw [← hpe] at hsp hcp
      (repeat (first | with_reducible refine W.seq ?_ | with_reducible refine Ops.nil ?_ | with_reducible refine W.region ?_ | refine z_p (kk := ?_)))
      refine Ops.rdS rfl rfl rfl rfl rfl rfl rfl rfl rfl rfl rfl hsl5 hin.1 (by omega) (fun q => ?_)
      (repeat (first | with_reducible refine Ops.nil ?_ | refine z_p (kk := ?_)))
      exact W.fret rfl ⟨hb05, fun _ => ⟨_, p, rfl, hp, hpk, hsp, hcp⟩, fun h => absurd ⟨rfl, hin⟩ h⟩
    · have hir : inR k 0 ((allL c.length).length - 1) = false := by simp [inR]; omega
      rw [hir]
      (repeat (first | with_reducible refine Ops.nil ?_ | refine z_p (kk := ?_)))
      refine W.condT rfl (by first | rfl | assumption | (simp only [bnf] <;> omega) | (simp only [*, bnf]; done) | fail) ?_
      (repeat (first | with_reducible refine W.seq ?_ | with_reducible refine Ops.nil ?_ | with_reducible refine W.region ?_ | refine z_p (kk := ?_)))
      exact W.fret rfl ⟨hb04, fun h => absurd h.2 hin, fun _ => rfl⟩
end Go.Proofs.Ytehjmakiljhjdaa
namespace Go.Proofs.Ytehjmakiljhjdaa
open Go Go.RowKit Go.Proofs.Ytehjmakiljhjdaa.VW
attribute [local irreducible] W Ops OrdA VW.Ord OrdX
set_option maxHeartbeats 2000000 in
theorem refWithin_c {w : World} {cv : Value} {c : List (List Int)} {most : Int} (hM : RowsM w cv c) (hC : Cst c) :
    Calls Try.prog 49 #[cv, .int .i64 most] w (Ret fun r w' => r = .int .i64 (cnL (leT c most) (allL c.length) : Nat) ∧ Below w.heap.size w w') := by
  have hn7 := hC.n7
  have hL := levL_lt (n := c.length) (i := c.length) hn7 hn7
  change (allL c.length).length ≤ 823543 at hL
  obtain ⟨Ac, cc, rfl⟩ := hM.sl
  refine calls_W (vs := [_, _]) Try.func49 rfl (by kernel_rfl) rfl ?_
  (repeat (first | with_reducible refine W.seq ?_ | with_reducible refine Ops.nil ?_ | with_reducible refine W.region ?_ | refine z_p (kk := ?_) | refine z_l (kk := ?_)))
  refine Ops.call rfl rfl rfl rfl rfl (All_c hn7) (fun r w1 hR => ?_)
  obtain ⟨lvs, hR⟩ := hR
  have hb1 := hR.o.bel
  have hML := hR.rowsM
  obtain ⟨AL, cL, rfl⟩ := hML.sl
  have hrow : ∀ i : Nat, row (allL c.length) i = (allL c.length).getD i [] := fun i => by simp [row]
  have hasg : ∀ i : Nat, i < (allL c.length).length → Asg (row (allL c.length) i) c.length := fun i hi => by rw [hrow]; exact all_asg hi
  (repeat (first | with_reducible refine W.seq ?_ | with_reducible refine Ops.nil ?_ | with_reducible refine W.region ?_ | refine z_p (kk := ?_) | with_reducible refine W.block ?_))
  refine W.loop (fun m ρ w3 => ∃ (i : Nat), m = (allL c.length).length - i ∧ i ≤ (allL c.length).length ∧ ρ = [(0, .slice Ac c.length cc), (1, .int .i64 most), (5, .slice AL (allL c.length).length cL), (6, .int .i64 (cnL (leT c most) ((allL c.length).take i) : Nat)), (7, .int .i64 i)] ∧ Below w1.heap.size w1 w3)
    ⟨_, _, ⟨0, rfl, Nat.zero_le _, rfl, Below.refl _ _⟩, (by repeat (first | exact trivial | refine And.intro rfl ?_))⟩ ?_
  rintro m ρ w3 ⟨i, rfl, hi, rfl, hb3⟩
  have hb03 := Below.via hb1 hb3
  (repeat (first | with_reducible refine W.seq ?_ | with_reducible refine Ops.nil ?_ | with_reducible refine W.region ?_ | refine z_p (kk := ?_) | refine z_l (kk := ?_)))
  (first | refine W.condD rfl (fun hc => ?_) (fun hc => ?_) | refine W.condE rfl (fun hc => ?_) (fun hc => ?_) | refine W.condN rfl (fun hc => ?_) (fun hc => ?_) | refine W.cond rfl (fun hc => ?_) (fun hc => ?_))
  · have hil : i < (allL c.length).length := by omega
    have hai := hasg i hil
    have hcl := cnL_le (leT c most) ((allL c.length).take i)
    rw [List.length_take] at hcl
    have hsn := cnL_snoc (leT c most) ((allL c.length).take i) (row (allL c.length) i)
    rw [hrow, ← take_succL hil] at hsn
    have hbe : leT c most ((allL c.length).getD i []) = decide (totP c (row (allL c.length) i) c.length ≤ most) := by rw [hrow]; rfl
    rw [hbe] at hsn
    (repeat (first | with_reducible refine W.seq ?_ | with_reducible refine W.region ?_ | refine z_p (kk := ?_) | with_reducible refine W.skip ?_ | with_reducible refine W.block ?_ | refine z_r (kk := fun _ _ _ _ => ?_)))
    rename_i Ai mi _ hsi
    refine Ops.call rfl rfl rfl rfl rfl (refTotal_c (hM.below hb03) hC (Sl.below hsi hb3) (fun q hq => (hai.2 q hq).1) (by rw [hai.1]; exact Nat.le_refl _)) (fun r w4 hR => ?_)
    obtain ⟨rfl, hb4⟩ := hR
    have hb14 := Below.via hb3 hb4
    rw [show totP c (row (allL c.length) i) (row (allL c.length) i).length = totP c (row (allL c.length) i) c.length by rw [hai.1]]
    (repeat (first | with_reducible refine Ops.nil ?_ | refine z_p (kk := ?_)))
    by_cases h1 : totP c (row (allL c.length) i) c.length ≤ most
    · rw [decide_eq_true h1, if_pos rfl] at hsn
      refine W.condT rfl (by first | rfl | assumption | (simp only [bnf] <;> omega) | (simp only [*, bnf]; done) | fail) ?_
      (repeat (first | with_reducible refine Ops.nil ?_ | with_reducible refine W.region ?_ | refine z_p (kk := ?_) | refine z_a (kk := ?_) | with_reducible refine W.endb ?_))
      refine W.endl ⟨_, _, ⟨⟨i + 1, rfl, by omega, rfl, hb14⟩, by omega⟩, ?_⟩
      rw [hsn]
      exact (by repeat (first | exact trivial | refine And.intro rfl ?_))
    · rw [decide_eq_false h1, if_neg (by simp)] at hsn
      refine W.condF rfl (by first | rfl | assumption | (simp only [bnf] <;> omega) | (simp only [*, bnf]; done) | fail) ?_
      (repeat (first | with_reducible refine Ops.nil ?_ | with_reducible refine W.region ?_ | refine z_p (kk := ?_) | refine z_a (kk := ?_) | with_reducible refine W.skip ?_ | with_reducible refine W.endb ?_))
      refine W.endl ⟨_, _, ⟨⟨i + 1, rfl, by omega, rfl, hb14⟩, by omega⟩, ?_⟩
      rw [hsn]
      exact (by repeat (first | exact trivial | refine And.intro rfl ?_))
  · have hil : i = (allL c.length).length := by omega
    subst hil
    rw [List.take_length]
    (repeat (first | with_reducible refine W.seq ?_ | with_reducible refine Ops.nil ?_ | with_reducible refine W.region ?_ | refine z_p (kk := ?_) | refine W.exit rfl ?_))
    exact W.fret rfl ⟨rfl, hb03⟩
set_option maxHeartbeats 4000000 in
theorem itemsLaw_c {w : World} {mv : Value} {k : Int} {l : List (List Int)} (hm : ArgR w mv l) :
    Calls Try.prog 12 #[mv, .int .i64 k] w (Ret fun r w' => r = .bool true ∧ Below w.heap.size w w') := by
  refine calls_W (vs := [_, _]) Try.func12 rfl (by kernel_rfl) rfl ?_
  (repeat (first | with_reducible refine W.seq ?_ | with_reducible refine Ops.nil ?_ | with_reducible refine W.region ?_ | refine z_p (kk := ?_)))
  refine Ops.call rfl rfl rfl rfl rfl (table_c hm) (fun tv w1 hR => ?_)
  obtain ⟨cvs, hR⟩ := hR
  have hb1 := hR.o.bel
  have hM1 := hR.rowsM
  clear hR hm
  generalize tab l = c at *
  obtain ⟨At, ct, rfl⟩ := hM1.sl
  (repeat (first | with_reducible refine W.seq ?_ | with_reducible refine Ops.nil ?_ | with_reducible refine W.region ?_ | refine z_p (kk := ?_)))
  refine Ops.call rfl rfl rfl rfl rfl (Item_c hM1) (fun r w2 hR2 => ?_)
  obtain ⟨hb2, hyes, hno⟩ := hR2
  have hb02 := Below.via hb1 hb2
  have hM2 := hM1.below hb2
  cases hc : costsB c with
  | false =>
    obtain rfl := hno (by simp [hc])
    (repeat (first | with_reducible refine W.seq ?_ | with_reducible refine Ops.nil ?_ | with_reducible refine W.region ?_ | refine z_p (kk := ?_)))
    refine Ops.call rfl rfl rfl rfl rfl (Within_c hM2) (fun r w3 hR => ?_)
    obtain ⟨rfl, hb3⟩ := hR
    have hM3 := hM2.below hb3
    rw [if_neg (by simp [hc])]
    (repeat (first | with_reducible refine W.seq ?_ | with_reducible refine Ops.nil ?_ | with_reducible refine W.region ?_ | refine z_p (kk := ?_)))
    refine Ops.call rfl rfl rfl rfl rfl (refCosts_c hM3) (fun r w5 hR5 => ?_)
    obtain ⟨rfl, hb5⟩ := hR5
    rw [hc]
    (repeat (first | with_reducible refine Ops.nil ?_ | refine z_p (kk := ?_)))
    refine W.condT rfl (by first | rfl | assumption | (simp only [bnf] <;> omega) | (simp only [*, bnf]; done) | fail) ?_
    (repeat (first | with_reducible refine W.seq ?_ | with_reducible refine W.region ?_ | refine z_p (kk := ?_) | refine z_y (kk := ?_) | refine z_l (kk := ?_)))
    refine Ops.call rfl rfl rfl rfl rfl (awake_c _) (fun r w6 hR => ?_)
    obtain ⟨rfl, hb6⟩ := hR
    (repeat (first | with_reducible refine Ops.nil ?_ | refine z_p (kk := ?_)))
    exact W.fret rfl ⟨rfl, Below.via hb02 (Below.via hb3 (Below.via hb5 hb6))⟩
  | true =>
    have hC := costs_iff.1 hc
    have hn7 := hC.n7
    have hL := levL_lt (n := c.length) (i := c.length) hn7 hn7
    have hpos := allL_pos (n := c.length)
    change (allL c.length).length ≤ 823543 at hL
    simp only [hc, true_and] at hyes hno
    by_cases hin : 0 ≤ k ∧ k < (allL c.length).length
    · obtain ⟨v, p, rfl, hp, hpk, hsv⟩ := hyes hin
      obtain ⟨k0, rfl⟩ := Int.eq_ofNat_of_zero_le hin.1
      have hpa := all_asg hp
      have hk0 : k0 < (allL c.length).length := by omega
      replace hsv := hsv.1
      obtain ⟨Av, mv', rfl⟩ := Sl.shape hsv
      (repeat (first | with_reducible refine W.seq ?_ | with_reducible refine Ops.nil ?_ | with_reducible refine W.region ?_ | refine z_p (kk := ?_)))
      refine Ops.call rfl rfl rfl rfl rfl (Within_c hM2) (fun r w3 hR => ?_)
      obtain ⟨rfl, hb3⟩ := hR
      have hM3 := hM2.below hb3
      rw [if_pos hc]
      (repeat (first | with_reducible refine W.seq ?_ | with_reducible refine Ops.nil ?_ | with_reducible refine W.region ?_ | refine z_p (kk := ?_)))
      refine Ops.call rfl rfl rfl rfl rfl (refCosts_c hM3) (fun r w5 hR5 => ?_)
      obtain ⟨rfl, hb5⟩ := hR5
      rw [hc]
      have hM5 := hM3.below hb5
      (repeat (first | with_reducible refine Ops.nil ?_ | refine z_p (kk := ?_)))
      refine W.condF rfl (by first | rfl | assumption | (simp only [bnf] <;> omega) | (simp only [*, bnf]; done) | fail) ?_
      (repeat (first | with_reducible refine W.seq ?_ | with_reducible refine W.region ?_ | refine z_p (kk := ?_) | with_reducible refine W.skip ?_))
      refine Ops.call rfl rfl rfl rfl rfl (refWithin_c hM5 hC) (fun r w6 hR => ?_)
      obtain ⟨rfl, hb6⟩ := hR
      have hM6 := hM5.below hb6
      (repeat (first | with_reducible refine Ops.nil ?_ | refine z_p (kk := ?_) | refine z_y (kk := ?_) | refine z_h (kk := ?_)))
      refine W.condF rfl (by first | rfl | assumption | (simp only [bnf] <;> omega) | (simp only [*, bnf]; done) | fail) ?_
      (repeat (first | with_reducible refine W.seq ?_ | with_reducible refine W.region ?_ | refine z_p (kk := ?_) | refine z_y (kk := ?_) | with_reducible refine W.skip ?_ | refine z_l (kk := ?_)))
      refine Ops.call rfl rfl rfl rfl rfl (All_c hn7) (fun r w7 hR => ?_)
      obtain ⟨lvs, hR⟩ := hR
      have hb7 := hR.o.bel
      have hML := hR.rowsM
      obtain ⟨AL, cL, rfl⟩ := hML.sl
      (repeat (first | with_reducible refine Ops.nil ?_ | refine z_p (kk := ?_) | refine z_y (kk := ?_) | refine z_l (kk := ?_)))
      refine W.condF rfl (by first | rfl | assumption | (simp only [bnf] <;> omega) | (simp only [*, bnf]; done) | fail) ?_
      (repeat (first | with_reducible refine W.seq ?_ | with_reducible refine W.region ?_ | refine z_p (kk := ?_) | with_reducible refine W.skip ?_))
      refine Ops.call rfl rfl rfl rfl rfl (Item_ref_c (hM6.below hb7) hC hk0) (fun r w8 hR8 => ?_)
      obtain ⟨⟨p2, hp2, hpk2, hs2⟩, hb8⟩ := hR8
      have hpp : p = p2 := rank_inj hp hp2 (by rw [hpk, hpk2]; simp)
      subst hpp
      have hb38 := Below.via hb3 (Below.via hb5 (Below.via hb6 (Below.via hb7 hb8)))
      skip
      refine Ops.call rfl rfl rfl rfl rfl (ints_c (Sl.below hsv hb38) hs2) (fun r w9 hR => ?_)
      obtain ⟨rfl, hb9⟩ := hR
      rw [decide_eq_true rfl]
      (repeat (first | refine z_p (kk := ?_) | refine z_y (kk := ?_)))
      refine Ops.call rfl rfl rfl rfl rfl (awake_c _) (fun r w10 hR => ?_)
      obtain ⟨rfl, hb10⟩ := hR
      (repeat (first | with_reducible refine Ops.nil ?_ | refine z_p (kk := ?_)))
      exact W.fret rfl ⟨rfl, Below.via hb02 (Below.via hb38 (Below.via hb9 hb10))⟩
    · obtain rfl := hno hin
      clear hyes hno
      (repeat (first | with_reducible refine W.seq ?_ | with_reducible refine Ops.nil ?_ | with_reducible refine W.region ?_ | refine z_p (kk := ?_)))
      refine Ops.call rfl rfl rfl rfl rfl (Within_c hM2) (fun r w3 hR => ?_)
      obtain ⟨rfl, hb3⟩ := hR
      have hM3 := hM2.below hb3
      rw [if_pos hc]
      (repeat (first | with_reducible refine W.seq ?_ | with_reducible refine Ops.nil ?_ | with_reducible refine W.region ?_ | refine z_p (kk := ?_)))
      refine Ops.call rfl rfl rfl rfl rfl (refCosts_c hM3) (fun r w5 hR5 => ?_)
      obtain ⟨rfl, hb5⟩ := hR5
      rw [hc]
      have hM5 := hM3.below hb5
      (repeat (first | with_reducible refine Ops.nil ?_ | refine z_p (kk := ?_)))
      refine W.condF rfl (by first | rfl | assumption | (simp only [bnf] <;> omega) | (simp only [*, bnf]; done) | fail) ?_
      (repeat (first | with_reducible refine W.seq ?_ | with_reducible refine W.region ?_ | refine z_p (kk := ?_) | with_reducible refine W.skip ?_))
      refine Ops.call rfl rfl rfl rfl rfl (refWithin_c hM5 hC) (fun r w6 hR => ?_)
      obtain ⟨rfl, hb6⟩ := hR
      have hM6 := hM5.below hb6
      (repeat (first | with_reducible refine Ops.nil ?_ | refine z_p (kk := ?_) | refine z_y (kk := ?_) | refine z_h (kk := ?_)))
      refine W.condF rfl (by first | rfl | assumption | (simp only [bnf] <;> omega) | (simp only [*, bnf]; done) | fail) ?_
      have hb06 := Below.via hb02 (Below.via hb3 (Below.via hb5 hb6))
      by_cases hk : k < 0
      · (repeat (first | with_reducible refine W.seq ?_ | with_reducible refine Ops.nil ?_ | with_reducible refine W.region ?_ | refine z_p (kk := ?_) | refine z_n (kk := ?_) | with_reducible refine W.skip ?_ | refine z_g (kk := ?_)))
        refine W.condT rfl (by first | rfl | assumption | (simp only [bnf] <;> omega) | (simp only [*, bnf]; done) | fail) ?_
        (repeat (first | with_reducible refine W.seq ?_ | with_reducible refine W.region ?_ | refine z_p (kk := ?_) | refine z_y (kk := ?_) | refine z_l (kk := ?_)))
        refine Ops.call rfl rfl rfl rfl rfl (awake_c _) (fun r w10 hR => ?_)
        obtain ⟨rfl, hb10⟩ := hR
        (repeat (first | with_reducible refine Ops.nil ?_ | refine z_p (kk := ?_)))
        exact W.fret rfl ⟨rfl, Below.via hb06 hb10⟩
      · (repeat (first | with_reducible refine W.seq ?_ | with_reducible refine W.region ?_ | refine z_p (kk := ?_) | refine z_y (kk := ?_) | with_reducible refine W.skip ?_ | refine z_l (kk := ?_) | refine z_h (kk := ?_)))
        refine Ops.call rfl rfl rfl rfl rfl (All_c hn7) (fun r w7 hR => ?_)
        obtain ⟨lvs, hR⟩ := hR
        have hb7 := hR.o.bel
        have hML := hR.rowsM
        obtain ⟨AL, cL, rfl⟩ := hML.sl
        have hge : decide (k ≥ (allL c.length).length) = true := by rw [decide_eq_true_eq]; omega
        (repeat (first | with_reducible refine Ops.nil ?_ | refine z_p (kk := ?_) | refine z_y (kk := ?_) | refine z_l (kk := ?_)))
        refine W.condT rfl (by first | rfl | assumption | (simp only [bnf] <;> omega) | (simp only [*, bnf]; done) | fail) ?_
        (repeat (first | with_reducible refine W.seq ?_ | with_reducible refine W.region ?_ | refine z_p (kk := ?_) | refine z_y (kk := ?_) | refine z_l (kk := ?_)))
        refine Ops.call rfl rfl rfl rfl rfl (awake_c _) (fun r w10 hR => ?_)
        obtain ⟨rfl, hb10⟩ := hR
        (repeat (first | with_reducible refine Ops.nil ?_ | refine z_p (kk := ?_)))
        exact W.fret rfl ⟨rfl, Below.via hb06 (Below.via hb7 hb10)⟩
end Go.Proofs.Ytehjmakiljhjdaa
/- Plain: how many are within a total, and what follows the k-th. -/
namespace Go.Proofs.Ytehjmakiljhjdaa
open Go Go.RowKit Go.Proofs.Ytehjmakiljhjdaa.VW
theorem cnL_ct (P : List Int → Bool) (n : Nat) : cnL P (allL n) = ct (fun q => P ((allL n).getD q [])) (allL n).length := by
  have e : allL n = (List.range (allL n).length).map (fun i => (allL n).getD i []) := List.ext_getElem (by simp) fun i h1 h2 => by simp [List.getD_eq_getElem?_getD, h1]
  unfold cnL
  rw [ct_filter]
  conv => lhs; rw [e]
  rw [List.filter_map, List.length_map]
  rfl
theorem beT_all {c : List (List Int)} {p q : Nat} (hp : p < (allL c.length).length) (hq : q < (allL c.length).length) : beT c ((allL c.length).getD p []) ((allL c.length).getD q []) = bef c q p := by
  unfold beT bef
  rw [lex_lt hq hp]
  rfl
theorem idx_rank {c : List (List Int)} {p : Nat} (hp : p < (allL c.length).length) : cnL (beT c ((allL c.length).getD p [])) (allL c.length) = rank c p := by
  rw [cnL_ct, rank_bef hp]
  exact ct_congr _ fun i hi => beT_all hp hi
def wi (c : List (List Int)) (p : Nat) : Nat := cnL (leT c (totP c ((allL c.length).getD p []) c.length)) (allL c.length)
theorem wi_ct {c : List (List Int)} {p : Nat} : wi c p = ct (fun q => decide (tt c q ≤ tt c p)) (allL c.length).length := cnL_ct _ _
theorem wi_gt {c : List (List Int)} {p : Nat} (hp : p < (allL c.length).length) : rank c p < wi c p := by
  rw [wi_ct, rank_bef hp]
  refine ct_ssub (j := p) _ (fun i hi h => ?_) hp bef_irr (by simp)
  unfold bef at h
  simp only [Bool.or_eq_true, Bool.and_eq_true, decide_eq_true_eq] at h ⊢
  omega
theorem wi_le {c : List (List Int)} {p : Nat} : wi c p ≤ (allL c.length).length := by rw [wi_ct]; exact ct_le _ _
theorem wi_next {c : List (List Int)} {p p2 : Nat} (hp : p < (allL c.length).length) (hp2 : p2 < (allL c.length).length) (h : rank c p2 = rank c p + 1) :
    (tt c p < tt c p2 ∧ wi c p = rank c p + 1) ∨ (tt c p = tt c p2 ∧ p < p2 ∧ rank c p + 1 < wi c p) := by
  have hb : bef c p p2 = true := by
    have hne : p ≠ p2 := fun e => by subst e; omega
    rcases bef_total (c := c) hne with e | e
    · exact e
    · have := rank_lt hp2 hp e; omega
  have hgt := wi_gt hp
  unfold bef at hb
  simp only [Bool.or_eq_true, Bool.and_eq_true, decide_eq_true_eq] at hb
  rcases hb with hb | ⟨hb1, hb2⟩
  · left
    refine ⟨hb, ?_⟩
    have : wi c p ≤ rank c p2 := by
      rw [wi_ct, rank_bef hp2]
      refine ct_sub _ (fun i hi hle => ?_)
      unfold bef
      simp only [Bool.or_eq_true, Bool.and_eq_true, decide_eq_true_eq] at hle ⊢
      omega
    omega
  · right
    refine ⟨hb1, hb2, ?_⟩
    have := wi_gt hp2
    rw [wi_ct] at this ⊢
    rw [hb1]
    omega
def facN : Nat → Nat
  | 0 => 1
  | n + 1 => facN n * (n + 1)
theorem all_fac : ∀ n, n ≤ 6 → (allL n).length = facN n := by decide +kernel
end Go.Proofs.Ytehjmakiljhjdaa
namespace Go.Proofs.Ytehjmakiljhjdaa
open Go Go.RowKit Go.Proofs.Ytehjmakiljhjdaa.VW
attribute [local irreducible] W Ops OrdA VW.Ord OrdX
theorem fac_c {n : Nat} (hn : 1 ≤ n) (hn6 : n ≤ 6) (w : World) : Calls Try.prog 51 #[.int .i64 (n : Int)] w (Ret fun r w' => r = .int .i64 (facN n : Nat) ∧ w' = w) := by
  refine calls_W (vs := [_]) Try.func51 rfl (by kernel_rfl) rfl ?_
  (repeat (first | with_reducible refine W.seq ?_ | with_reducible refine Ops.nil ?_ | with_reducible refine W.region ?_ | refine z_p (kk := ?_) | with_reducible refine W.block ?_))
  refine W.loop (fun m ρ w1 => ∃ (i : Nat), m = n - i ∧ 1 ≤ i ∧ i ≤ n ∧ w1 = w ∧ ρ = [(0, .int .i64 (n : Int)), (3, .int .i64 (facN i : Nat)), (4, .int .i64 ((i + 1 : Nat) : Int))])
    ⟨_, _, ⟨1, rfl, Nat.le_refl _, hn, rfl, rfl⟩, (by repeat (first | exact trivial | refine And.intro rfl ?_))⟩ ?_
  rintro m ρ w1 ⟨i, rfl, hi1, hi, rfl, rfl⟩
  (repeat (first | with_reducible refine W.seq ?_ | with_reducible refine Ops.nil ?_ | with_reducible refine W.region ?_ | refine z_p (kk := ?_)))
  by_cases h : i + 1 ≤ n
  · have hfb : facN i ≤ 120 ∧ (facN i : Int) * ((i + 1 : Nat) : Int) = (facN (i + 1) : Nat) ∧ facN (i + 1) ≤ 720 := by
      have : i = 1 ∨ i = 2 ∨ i = 3 ∨ i = 4 ∨ i = 5 := by omega
      rcases this with rfl | rfl | rfl | rfl | rfl <;> decide
    refine W.condT rfl (by first | rfl | assumption | (simp only [bnf] <;> omega) | (simp only [*, bnf]; done) | fail) ?_
    (repeat (first | with_reducible refine W.seq ?_ | with_reducible refine Ops.nil ?_ | with_reducible refine W.region ?_ | refine z_p (kk := ?_) | refine z_a (kk := ?_) | with_reducible refine W.skip ?_ | with_reducible refine W.endb ?_ | with_reducible refine W.block ?_))
    rw [hfb.2.1, show ((i + 1 : Nat) : Int) + 1 = ((i + 1 + 1 : Nat) : Int) by omega]
    exact W.endl ⟨_, _, ⟨⟨i + 1, rfl, by omega, h, rfl, rfl⟩, by omega⟩, (by repeat (first | exact trivial | refine And.intro rfl ?_))⟩
  · have : i = n := by omega
    subst this
    refine W.condF rfl (by first | rfl | assumption | (simp only [bnf] <;> omega) | (simp only [*, bnf]; done) | fail) ?_
    (repeat (first | with_reducible refine W.seq ?_ | with_reducible refine Ops.nil ?_ | with_reducible refine W.region ?_ | refine z_p (kk := ?_) | refine W.exit rfl ?_))
    exact W.fret rfl ⟨rfl, rfl⟩
set_option maxHeartbeats 1000000 in
theorem lawBefore_c {w : World} {av bv : Value} {a b : List Int} (ha : SlI w av a) (hb : SlI w bv b) (hab : a.length = b.length) : Calls Try.prog 52 #[av, bv] w (Ret fun r w' => r = .bool (lexB a b) ∧ Below w.heap.size w w') := by
  have hal := Sl.len ha
  obtain ⟨Aa, ca, rfl⟩ := Sl.shape ha
  obtain ⟨Ab, cb, rfl⟩ := Sl.shape hb
  refine calls_W (vs := [_, _]) Try.func52 rfl (by kernel_rfl) rfl ?_
  (repeat (first | with_reducible refine W.seq ?_ | with_reducible refine Ops.nil ?_ | with_reducible refine W.region ?_ | refine z_p (kk := ?_) | with_reducible refine W.block ?_))
  refine W.loop (fun m ρ w1 => ∃ (i : Nat), m = a.length - i ∧ i ≤ a.length ∧ Below w.heap.size w w1 ∧ ρ = [(0, .slice Aa a.length ca), (1, .slice Ab b.length cb), (5, .int .i64 i)] ∧ ∀ q, q < i → a.getD q 0 = b.getD q 0)
    ⟨_, _, ⟨0, rfl, Nat.zero_le _, Below.refl _ _, rfl, fun q hq => by omega⟩, (by repeat (first | exact trivial | refine And.intro rfl ?_))⟩ ?_
  rintro m ρ w1 ⟨i, rfl, hi, hb1, rfl, heq⟩
  by_cases hil : i < a.length
  · (repeat (first | with_reducible refine W.seq ?_ | with_reducible refine Ops.nil ?_ | with_reducible refine W.region ?_ | refine z_p (kk := ?_) | refine z_y (kk := ?_) | refine z_l (kk := ?_) | refine z_h (kk := ?_)))
    refine W.condT rfl (by first | rfl | assumption | (simp only [bnf] <;> omega) | (simp only [*, bnf]; done) | fail) ?_
    (repeat (first | with_reducible refine W.seq ?_ | with_reducible refine W.skip ?_ | with_reducible refine W.block ?_))
    refine W.ordA 99 [(0, 1), (1, 1), (2, 1), (3, 2), (4, 1), (5, 1), (6, 1), (7, 2), (8, 1)] rfl (by kernel_rfl) rfl (by kernel_rfl) (fun _ _ _ h => h) ?_
    (repeat (first | refine x_p (kk := ?_) | refine x_I (kk := fun _ => ?_)))
    refine OrdA.nil (fun w2 hb2 => ?_)
    have hb02 := Below.via hb1 hb2
    by_cases hz : a.getD i 0 = b.getD i 0
    · skip
      refine W.condF rfl (by first | rfl | assumption | (simp only [bnf] <;> omega) | (simp only [*, bnf]; done) | fail) ?_
      (repeat (first | with_reducible refine Ops.nil ?_ | with_reducible refine W.region ?_ | refine z_p (kk := ?_) | refine z_a (kk := ?_) | with_reducible refine W.skip ?_ | with_reducible refine W.endb ?_))
      exact W.endl ⟨_, _, ⟨⟨i + 1, rfl, by omega, hb02, rfl, fun q hq => by
        by_cases e : q = i
        · rw [e]; exact hz
        · exact heq q (by omega)⟩, by omega⟩, (by repeat (first | exact trivial | refine And.intro rfl ?_))⟩
    · skip
      refine W.condT rfl (by first | rfl | assumption | (simp only [bnf] <;> omega) | (simp only [*, bnf]; done) | fail) ?_
      (repeat (first | with_reducible refine W.seq ?_))
      refine W.ordA 99 [(0, 1), (1, 1), (2, 1), (3, 2), (4, 1), (5, 1), (6, 1), (7, 2), (8, 1), (9, 1)] rfl (by kernel_rfl) rfl (by kernel_rfl) (fun _ _ _ h => h) ?_
      (repeat (first | refine x_p (kk := ?_) | refine x_I (kk := fun _ => ?_)))
      refine OrdA.nil (fun w3 hb3 => ?_)
      skip
      refine W.fret rfl ⟨?_, Below.via hb02 hb3⟩
      show Value.bool _ = _
      congr 1
      have hne : cmI (a.getD i 0) (b.getD i 0) ≠ 0 := fun h => hz (cmI_zero.1 h)
      have h1 := slC_at heq hil (by omega) hne
      have h2 := (slC_lex a b).1
      rw [h1, cmI_neg] at h2
      rw [Bool.eq_iff_iff, ← h2, decide_eq_true_eq]
  · have hil : i = a.length := by omega
    subst hil
    (repeat (first | with_reducible refine W.seq ?_ | with_reducible refine Ops.nil ?_ | with_reducible refine W.region ?_ | refine z_p (kk := ?_) | refine z_n (kk := ?_) | refine z_l (kk := ?_) | refine z_g (kk := ?_)))
    refine W.condF rfl (by first | rfl | assumption | (simp only [bnf] <;> omega) | (simp only [*, bnf]; done) | fail) ?_
    (repeat (first | with_reducible refine W.seq ?_ | with_reducible refine Ops.nil ?_ | with_reducible refine W.region ?_ | refine z_p (kk := ?_) | refine W.exit rfl ?_ | refine z_l (kk := ?_)))
    refine W.fret rfl ⟨?_, hb1⟩
    have hx := list_ext hab (fun q hq => heq q hq)
    rw [decide_eq_false (show ¬ ((a.length : Int) < b.length) by omega), hx, lexB_irr]
    rfl
set_option maxHeartbeats 4000000 in
set_option maxRecDepth 20000 in
theorem orderedLaw_c {w : World} {mv : Value} {n k : Int} {l : List (List Int)} (hm : ArgR w mv l) :
    Calls Try.prog 14 #[.int .i64 n, mv, .int .i64 k] w (Ret fun r w' => r = .bool true ∧ Below w.heap.size w w') := by
  refine calls_W (vs := [_, _, _]) Try.func14 rfl (by kernel_rfl) rfl ?_
  (repeat (first | with_reducible refine W.seq ?_ | with_reducible refine Ops.nil ?_ | with_reducible refine W.region ?_ | refine z_p (kk := ?_)))
  refine Ops.callS rfl rfl rfl rfl rfl (mod_c _ _ _ (by omega) (by omega)) ?_
  have hmb := modI_bd n (n := 6) (by omega)
  obtain ⟨n0, hn0⟩ := Int.eq_ofNat_of_zero_le hmb.1
  rw [hn0] at hmb ⊢
  (repeat (first | with_reducible refine W.seq ?_ | with_reducible refine Ops.nil ?_ | with_reducible refine W.region ?_ | refine z_p (kk := ?_) | refine z_a (kk := ?_)))
  rw [show (1 : Int) + ((n0 : Nat) : Int) = ((n0 + 1 : Nat) : Int) by omega]
  refine Ops.call rfl rfl rfl rfl rfl (tame_c hm.1 (n := n0 + 1) (by omega) (by omega) (by omega)) (fun tv w2 hR => ?_)
  obtain ⟨cvs, hR⟩ := hR
  have hb2 := hR.o.bel
  have hA2 := hR.argR
  change ArgR w2 tv (tmC l (n0 + 1) 1000) at hA2
  have hC := tmC_cst l (n := n0 + 1) (most := 1000) (by omega) (by omega) (by omega) (by omega)
  have hcl := tmC_len l (n0 + 1) 1000
  generalize tmC l (n0 + 1) 1000 = c at *
  clear hR
  have hcB : costsB c = true := costs_iff.2 hC
  have hn7 := hC.n7
  have hM2 := hA2.1
  clear hA2
  obtain ⟨Ac, cc, rfl⟩ := hM2.sl
  have hpos := allL_pos (n := c.length)
  have hfac := all_fac c.length (by omega)
  have hL := levL_lt (n := c.length) (i := c.length) hn7 hn7
  change (allL c.length).length ≤ 823543 at hL
  (repeat (first | with_reducible refine W.seq ?_ | with_reducible refine Ops.nil ?_ | with_reducible refine W.region ?_ | refine z_p (kk := ?_)))
  refine Ops.callS rfl rfl rfl rfl rfl (fac_c (n := n0 + 1) (by omega) (by omega) _) ?_
  rw [← hcl, ← hfac]
  generalize hN : (allL c.length).length = N at *
  (repeat (first | with_reducible refine W.seq ?_ | with_reducible refine Ops.nil ?_ | with_reducible refine W.region ?_ | refine z_p (kk := ?_)))
  refine Ops.callS rfl rfl rfl rfl rfl (mod_c _ _ _ (by omega) (by omega)) ?_
  have hmk := modI_bd k (n := N) (by omega)
  obtain ⟨k0, hk0⟩ := Int.eq_ofNat_of_zero_le hmk.1
  rw [hk0] at hmk ⊢
  have hkN : k0 < N := by omega
  (repeat (first | with_reducible refine W.seq ?_ | with_reducible refine Ops.nil ?_ | with_reducible refine W.region ?_ | refine z_p (kk := ?_)))
  refine Ops.call rfl rfl rfl rfl rfl (Item_c hM2) (fun r w3 hR => ?_)
  obtain ⟨hb3, hyes, -⟩ := hR
  obtain ⟨v, p, rfl, hp, hpk, hv3⟩ := hyes ⟨hcB, by omega, by omega⟩
  rw [Int.toNat_natCast] at hpk
  clear hyes
  have hM3 := hM2.below hb3
  have hpa := all_asg hp
  obtain ⟨Av, cv, rfl⟩ := Sl.shape hv3.1
  (repeat (first | with_reducible refine W.seq ?_ | with_reducible refine Ops.nil ?_ | with_reducible refine W.region ?_ | refine z_p (kk := ?_)))
  refine Ops.call rfl rfl rfl rfl rfl (Index_c hM3 hv3) (fun r w4 hR => ?_)
  obtain ⟨rfl, hb4⟩ := hR
  rw [if_pos ⟨hcB, hpa⟩, idx_rank hp, hpk]
  have hM4 := hM3.below hb4
  have hv4 := hv3.below hb4
  (repeat (first | with_reducible refine W.seq ?_ | with_reducible refine Ops.nil ?_ | with_reducible refine W.region ?_ | refine z_p (kk := ?_)))
  refine Ops.call rfl rfl rfl rfl rfl (Total_c hM4 hv4) (fun r w5 hR => ?_)
  obtain ⟨rfl, hb5⟩ := hR
  rw [if_pos ⟨hcB, hpa⟩]
  have hM5 := hM4.below hb5
  have hv5 := hv4.below hb5
  (repeat (first | with_reducible refine W.seq ?_ | with_reducible refine Ops.nil ?_ | with_reducible refine W.region ?_ | refine z_p (kk := ?_)))
  refine Ops.call rfl rfl rfl rfl rfl (Within_c hM5) (fun r w6 hR => ?_)
  obtain ⟨rfl, hb6⟩ := hR
  rw [if_pos hcB]
  change Ops _ _ _ _ _ _ _ _ ((_, .tuple #[.int .i64 (wi c p : Nat), .int .i64 0]) :: _) _
  have hM6 := hM5.below hb6
  have hv6 := hv5.below hb6
  have hw1 := wi_gt hp
  have hw2 := wi_le (c := c) (p := p)
  rw [hpk] at hw1
  rw [hN] at hw2
  have hb06 := Below.via hb2 (Below.via hb3 (Below.via hb4 (Below.via hb5 hb6)))
  (repeat (first | with_reducible refine W.seq ?_ | with_reducible refine Ops.nil ?_ | with_reducible refine W.region ?_ | refine z_p (kk := ?_) | refine z_y (kk := ?_) | refine z_h (kk := ?_)))
  refine W.condF rfl (by first | rfl | assumption | (simp only [bnf] <;> omega) | (simp only [*, bnf]; done) | fail) ?_
  (repeat (first | with_reducible refine W.seq ?_ | with_reducible refine Ops.nil ?_ | with_reducible refine W.region ?_ | refine z_p (kk := ?_) | refine z_a (kk := ?_) | with_reducible refine W.skip ?_))
  by_cases hlast : k0 + 1 = N
  · refine W.condT rfl (by first | rfl | assumption | (simp only [bnf] <;> omega) | (simp only [*, bnf]; done) | fail) ?_
    (repeat (first | with_reducible refine W.seq ?_ | with_reducible refine W.region ?_ | refine z_p (kk := ?_) | refine z_a (kk := ?_)))
    refine Ops.call rfl rfl rfl rfl rfl (Item_c hM6) (fun r w7 hR => ?_)
    obtain ⟨hb7, -, hno⟩ := hR
    obtain rfl := hno (fun h => by omega)
    clear hno
    (repeat (first | with_reducible refine W.seq ?_ | with_reducible refine Ops.nil ?_ | with_reducible refine W.region ?_ | refine z_p (kk := ?_) | refine z_y (kk := ?_) | refine z_h (kk := ?_)))
    refine Ops.call rfl rfl rfl rfl rfl (awake_c _) (fun r w10 hR => ?_)
    obtain ⟨rfl, hb10⟩ := hR
    (repeat (first | with_reducible refine Ops.nil ?_ | refine z_p (kk := ?_)))
    exact W.fret rfl ⟨rfl, Below.via hb06 (Below.via hb7 hb10)⟩
  · refine W.condF rfl (by first | rfl | assumption | (simp only [bnf] <;> omega) | (simp only [*, bnf]; done) | fail) ?_
    (repeat (first | with_reducible refine W.seq ?_ | with_reducible refine W.region ?_ | refine z_p (kk := ?_) | refine z_a (kk := ?_) | with_reducible refine W.skip ?_))
    refine Ops.call rfl rfl rfl rfl rfl (Item_c hM6) (fun r w7 hR => ?_)
    obtain ⟨hb7, hyes, -⟩ := hR
    obtain ⟨v2, p2, rfl, hp2, hpk2, hv7⟩ := hyes ⟨hcB, by omega, by omega⟩
    rw [show ((k0 : Int) + 1).toNat = k0 + 1 by omega] at hpk2
    clear hyes
    have hM7 := hM6.below hb7
    have hpa2 := all_asg hp2
    have hv67 := hv6.below hb7
    obtain ⟨Av2, cv2, rfl⟩ := Sl.shape hv7.1
    (repeat (first | with_reducible refine W.seq ?_ | with_reducible refine Ops.nil ?_ | with_reducible refine W.region ?_ | refine z_p (kk := ?_)))
    refine Ops.call rfl rfl rfl rfl rfl (Total_c hM7 hv7) (fun r w8 hR => ?_)
    obtain ⟨rfl, hb8⟩ := hR
    rw [if_pos ⟨hcB, hpa2⟩]
    have hnx := wi_next hp hp2 (by rw [hpk, hpk2])
    rw [hpk] at hnx
    change (totP c ((allL c.length).getD p []) c.length < totP c ((allL c.length).getD p2 []) c.length ∧ _) ∨ (totP c ((allL c.length).getD p []) c.length = totP c ((allL c.length).getD p2 []) c.length ∧ _) at hnx
    have hb08 := Below.via hb06 (Below.via hb7 hb8)
    rcases hnx with ⟨h1, h2⟩ | ⟨h1, h2, h3⟩
    · (repeat (first | with_reducible refine W.seq ?_ | with_reducible refine Ops.nil ?_ | with_reducible refine W.region ?_ | refine z_p (kk := ?_) | refine z_a (kk := ?_) | refine z_y (kk := ?_) | refine z_n (kk := ?_) | refine z_u (kk := ?_) | refine z_g (kk := ?_) | refine z_h (kk := ?_)))
      refine Ops.call rfl rfl rfl rfl rfl (awake_c _) (fun r w10 hR => ?_)
      obtain ⟨rfl, hb10⟩ := hR
      (repeat (first | with_reducible refine Ops.nil ?_ | refine z_p (kk := ?_)))
      exact W.fret rfl ⟨rfl, Below.via hb08 hb10⟩
    · (repeat (first | with_reducible refine W.seq ?_ | with_reducible refine Ops.nil ?_ | with_reducible refine W.region ?_ | refine z_p (kk := ?_) | refine z_y (kk := ?_) | refine z_n (kk := ?_) | refine z_g (kk := ?_) | refine z_h (kk := ?_)))
      refine Ops.call rfl rfl rfl rfl rfl (lawBefore_c (Sl.below hv67.1 hb8) (Sl.below hv7.1 hb8) (by rw [hpa.1, hpa2.1])) (fun r w9 hR => ?_)
      obtain ⟨rfl, hb9⟩ := hR
      rw [lex_lt hp hp2, decide_eq_true h2]
      (repeat (first | refine z_p (kk := ?_) | refine z_a (kk := ?_) | refine z_y (kk := ?_) | refine z_h (kk := ?_)))
      refine Ops.call rfl rfl rfl rfl rfl (awake_c _) (fun r w10 hR => ?_)
      obtain ⟨rfl, hb10⟩ := hR
      (repeat (first | with_reducible refine Ops.nil ?_ | refine z_p (kk := ?_)))
      exact W.fret rfl ⟨rfl, Below.via hb08 (Below.via hb9 hb10)⟩
end Go.Proofs.Ytehjmakiljhjdaa
