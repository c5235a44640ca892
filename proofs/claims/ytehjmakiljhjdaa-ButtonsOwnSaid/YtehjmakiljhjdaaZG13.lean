/- A part of the walk: what this seat's statements share. -/
import Derived.Test.YtehjmakiljhjdaaZG12
import Derived.Test.YtehjmakiljhjdaaZG11
import Derived.Test.YtehjmakiljhjdaaZG10
import Derived.Test.YtehjmakiljhjdaaZG6
import Derived.Test.YtehjmakiljhjdaaZG9
import Derived.Test.YtehjmakiljhjdaaZG8
import Derived.Test.YtehjmakiljhjdaaZG5
set_option linter.unusedVariables false
set_option linter.unusedSimpArgs false
set_option linter.unusedSectionVars false
namespace Go.Proofs.Ytehjmakiljhjdaa
open Go Go.RowKit Go.Proofs.Ytehjmakiljhjdaa.VW
attribute [local irreducible] W Ops OrdA VW.Ord OrdX Wi OpsI OrdF
theorem Collect_c {w : World} {b1 n cap : Nat} {A : Option Addr} (hn : n ≤ 7) (hn0 : 0 < n) (hB : Blk w b1 #[.slice A n cap] 71) :
    Calls Try.prog 79 #[.func (.func 90) #[] #[.pointer (some ⟨b1, 0, none⟩)]] w (Ret fun r w' => ∃ vs, RS w w' r vs (allL n)) := by
  refine calls_W (vs := [_]) Try.func79 rfl (by kernel_rfl) rfl ?_
  (repeat (first | with_reducible refine W.seq ?_ | with_reducible refine Ops.nil ?_ | with_reducible refine W.region ?_ | refine z_p (kk := ?_)))
  refine Ops.call rfl rfl rfl rfl rfl (AppendSeq_c hn hn0 hB) (fun r w1 hR => ?_)
  (repeat (first | with_reducible refine Ops.nil ?_ | refine z_p (kk := ?_)))
  exact W.fret rfl hR
set_option maxHeartbeats 2000000 in
theorem Item_c {w : World} {cv : Value} {c : List (List Int)} {k : Int} (hM : RowsM w cv c) :
    Calls Try.prog 48 #[cv, .int .i64 k] w (Ret fun r w' => Below w.heap.size w w' ∧
      ((costsB c = true ∧ 0 ≤ k ∧ k < (allL c.length).length → ∃ v p, r = .tuple #[v, .int .i64 0] ∧ p < (allL c.length).length ∧ rank c p = k.toNat ∧ Arg w' v ((allL c.length).getD p [])) ∧
       (¬ (costsB c = true ∧ 0 ≤ k ∧ k < (allL c.length).length) → r = .tuple #[.slice none 0 0, .int .i64 2]))) := by
  obtain ⟨Ac, cc, rfl⟩ := hM.sl
  refine calls_W (vs := [_, _]) Try.func48 rfl (by kernel_rfl) rfl ?_
  (repeat (first | with_reducible refine W.seq ?_ | with_reducible refine W.region ?_))
  refine Ops.box rfl rfl rfl rfl (fun w1 b2 hM2 => ?_)
  have e2 := hM2.r_eq
  have s2 := hM2.size
  have hb : Below w.heap.size w w1 := Mk.bel hM2
  have B2 : Blk w1 b2 #[.slice Ac c.length cc] 22 := hM2.at_
  have hM1 := hM.below hb
  have hb11 : Below w1.heap.size w1 w1 := Below.refl _ _
  (repeat (first | with_reducible refine W.seq ?_ | with_reducible refine Ops.nil ?_ | with_reducible refine W.region ?_ | refine z_p (kk := ?_) | refine z_d (kk := ?_)))
  refine Ops.call rfl rfl rfl rfl rfl (areCosts_c hM1) (fun r w2 hR => ?_)
  obtain ⟨rfl, hb2⟩ := hR
  have hb02 := Below.via hb hb2
  cases hc : costsB c with
  | false =>
    (repeat (first | with_reducible refine Ops.nil ?_ | refine z_p (kk := ?_)))
    refine W.condT rfl (by first | rfl | assumption | (simp only [bnf] <;> omega) | (simp only [*, bnf]; done) | fail) ?_
    (repeat (first | with_reducible refine W.seq ?_ | with_reducible refine Ops.nil ?_ | with_reducible refine W.region ?_ | refine z_p (kk := ?_)))
    exact W.fret rfl ⟨hb02, fun h => by simp at h, fun _ => rfl⟩
  | true =>
    have hC := costs_iff.1 hc
    have hn7 := hC.n7
    have hn1 := hC.n1
    have hL := levL_lt (n := c.length) (i := c.length) hn7 hn7
    have hpos := allL_pos (n := c.length)
    change (allL c.length).length ≤ 823543 at hL
    (repeat (first | with_reducible refine Ops.nil ?_ | refine z_p (kk := ?_)))
    refine W.condF rfl (by first | rfl | assumption | (simp only [bnf] <;> omega) | (simp only [*, bnf]; done) | fail) ?_
    (repeat (first | with_reducible refine W.seq ?_ | with_reducible refine W.region ?_ | with_reducible refine W.skip ?_ | refine z_D (kk := ?_)))
    refine Ops.call rfl rfl rfl rfl rfl all_c (fun rv wE hR => ?_)
    obtain ⟨b90, rfl, hB90, hge, hlE⟩ := hR
    have hB90' : Blk wE b90 #[.slice Ac c.length cc] 71 := hB90
    skip
    refine Ops.call rfl rfl rfl rfl rfl (Collect_c hn7 (by omega) hB90') (fun ov w4 hR => ?_)
    obtain ⟨vs, hRS⟩ := hR
    have hb04 := Below.via (Below.via hb02 hlE) hRS.o.bel
    have hvl := hRS.len
    have hown : w4.ownsRow 0 23 1 ov (allL c.length).length vs := by
      have := hRS.o.own
      rw [hvl] at this
      simpa using this
    obtain ⟨Ao, co, rfl⟩ : ∃ Ao co, ov = .slice Ao (allL c.length).length co := by
      rcases hown.2 with ⟨e, h0⟩ | ⟨g, cap, cur, e, _⟩
      · omega
      · exact ⟨_, _, e⟩
    (repeat (first | with_reducible refine W.seq ?_ | with_reducible refine Ops.nil ?_ | with_reducible refine W.region ?_ | refine z_p (kk := ?_) | refine z_a (kk := ?_) | refine z_l (kk := ?_)))
    refine Ops.callS rfl rfl rfl rfl rfl (within_c _ _ _ _) ?_
    by_cases hin : 0 ≤ k ∧ k < (allL c.length).length
    · have hir : inR k 0 ((allL c.length).length - 1) = true := by simp [inR]; omega
      rw [hir]
      have hb14 : Below w1.heap.size w1 w4 := Below.via (Below.via hb2 hlE) hRS.o.bel
      have B24 : Blk w4 b2 #[.slice Ac c.length cc] 22 := B2.kp (Kp.of_below (S := fun _ => False) hb14) (fun e => e)
      have hgeo : ∀ i, (Value.slice Ao (allL c.length).length co).ownBlock = some i → wE.heap.size ≤ i := hRS.o.ge
      have hbE := (Below.via hb2 hlE).size
      have hsort := sortF_c hC hown B24 (fun e => by have := hgeo _ e; omega) (fun W hk => hM.below (Below.put hb04 hk (fun i e => by have := hgeo _ e; have := hb.size; omega))) (fun q hq W hk => Sl.kp (hRS.rows q hq) hk (fun i hi e => (hRS.ge q hq i hi).2 e)) (by omega) hpos
      (repeat (first | with_reducible refine Ops.nil ?_ | refine z_p (kk := ?_)))
      refine W.condF rfl (by first | rfl | assumption | (simp only [bnf] <;> omega) | (simp only [*, bnf]; done) | fail) ?_
      (repeat (first | with_reducible refine W.seq ?_ | with_reducible refine W.region ?_ | refine z_p (kk := ?_) | with_reducible refine W.skip ?_))
      refine Ops.call rfl rfl rfl rfl rfl hsort (fun r w5 hR => ?_)
      obtain ⟨rfl, hk5, vs', hown5, hrk⟩ := hR
      have hl5 : vs'.length = (allL c.length).length := by have := hown5.1; omega
      have hb05 : Below w.heap.size w w5 := Below.put hb04 hk5 (fun i e => by have := hgeo _ e; have := hb.size; omega)
      have hsl5 : Sl (fun v : Value => v) undef w5 (.slice Ao (allL c.length).length co) vs' := own_sl (e := 23) (by rw [hl5]; simpa using hown5)
      obtain ⟨p, hp, hpk, hpe⟩ := hrk k.toNat (by omega)
      have hsp : SlI w5 (vs.getD p undef) ((allL c.length).getD p []) := Sl.kp (hRS.rows p hp) hk5 (fun i hi e => (hRS.ge p hp i hi).2 e)
      have hcp := hRS.cap p hp
      rw [← hpe] at hsp hcp
      (repeat (first | with_reducible refine W.seq ?_ | with_reducible refine Ops.nil ?_ | with_reducible refine W.region ?_ | refine z_p (kk := ?_)))
      refine Ops.rdS rfl rfl rfl rfl rfl rfl rfl rfl rfl rfl rfl hsl5 hin.1 (by omega) (fun q => ?_)
      (repeat (first | with_reducible refine Ops.nil ?_ | refine z_p (kk := ?_)))
      exact W.fret rfl ⟨hb05, fun _ => ⟨_, p, rfl, hp, hpk, hsp, hcp⟩, fun h => absurd ⟨rfl, hin⟩ h⟩
    · have hir : inR k 0 ((allL c.length).length - 1) = false := by simp [inR]; omega
      rw [hir]
      (repeat (first | with_reducible refine Ops.nil ?_ | refine z_p (kk := ?_)))
      refine W.condT rfl (by first | rfl | assumption | (simp only [bnf] <;> omega) | (simp only [*, bnf]; done) | fail) ?_
      (repeat (first | with_reducible refine W.seq ?_ | with_reducible refine Ops.nil ?_ | with_reducible refine W.region ?_ | refine z_p (kk := ?_)))
      exact W.fret rfl ⟨hb04, fun h => absurd h.2 hin, fun _ => rfl⟩
end Go.Proofs.Ytehjmakiljhjdaa
namespace Go.Proofs.Ytehjmakiljhjdaa
open Go Go.RowKit Go.Proofs.Ytehjmakiljhjdaa.VW
attribute [local irreducible] W Ops OrdA VW.Ord OrdX
set_option maxHeartbeats 2000000 in
theorem refWithin_c {w : World} {cv : Value} {c : List (List Int)} {most : Int} (hM : RowsM w cv c) (hC : Cst c) :
    Calls Try.prog 49 #[cv, .int .i64 most] w (Ret fun r w' => r = .int .i64 (cnL (leT c most) (allL c.length) : Nat) ∧ Below w.heap.size w w') := by
  have hn7 := hC.n7
  have hL := levL_lt (n := c.length) (i := c.length) hn7 hn7
  change (allL c.length).length ≤ 823543 at hL
  obtain ⟨Ac, cc, rfl⟩ := hM.sl
  refine calls_W (vs := [_, _]) Try.func49 rfl (by kernel_rfl) rfl ?_
  (repeat (first | with_reducible refine W.seq ?_ | with_reducible refine Ops.nil ?_ | with_reducible refine W.region ?_ | refine z_p (kk := ?_) | refine z_l (kk := ?_)))
  refine Ops.call rfl rfl rfl rfl rfl (All_c hn7) (fun r w1 hR => ?_)
  obtain ⟨lvs, hR⟩ := hR
  have hb1 := hR.o.bel
  have hML := hR.rowsM
  obtain ⟨AL, cL, rfl⟩ := hML.sl
  have hrow : ∀ i : Nat, row (allL c.length) i = (allL c.length).getD i [] := fun i => by simp [row]
  have hasg : ∀ i : Nat, i < (allL c.length).length → Asg (row (allL c.length) i) c.length := fun i hi => by rw [hrow]; exact all_asg hi
  (repeat (first | with_reducible refine W.seq ?_ | with_reducible refine Ops.nil ?_ | with_reducible refine W.region ?_ | refine z_p (kk := ?_) | with_reducible refine W.block ?_))
  refine W.loop (fun m ρ w3 => ∃ (i : Nat), m = (allL c.length).length - i ∧ i ≤ (allL c.length).length ∧ ρ = [(0, .slice Ac c.length cc), (1, .int .i64 most), (5, .slice AL (allL c.length).length cL), (6, .int .i64 (cnL (leT c most) ((allL c.length).take i) : Nat)), (7, .int .i64 i)] ∧ Below w1.heap.size w1 w3)
    ⟨_, _, ⟨0, rfl, Nat.zero_le _, rfl, Below.refl _ _⟩, (by repeat (first | exact trivial | refine And.intro rfl ?_))⟩ ?_
  rintro m ρ w3 ⟨i, rfl, hi, rfl, hb3⟩
  have hb03 := Below.via hb1 hb3
  (repeat (first | with_reducible refine W.seq ?_ | with_reducible refine Ops.nil ?_ | with_reducible refine W.region ?_ | refine z_p (kk := ?_) | refine z_l (kk := ?_)))
  (first | refine W.condD rfl (fun hc => ?_) (fun hc => ?_) | refine W.condE rfl (fun hc => ?_) (fun hc => ?_) | refine W.condN rfl (fun hc => ?_) (fun hc => ?_) | refine W.cond rfl (fun hc => ?_) (fun hc => ?_))
  · have hil : i < (allL c.length).length := by omega
    have hai := hasg i hil
    have hcl := cnL_le (leT c most) ((allL c.length).take i)
    rw [List.length_take] at hcl
    have hsn := cnL_snoc (leT c most) ((allL c.length).take i) (row (allL c.length) i)
    rw [hrow, ← take_succL hil] at hsn
    have hbe : leT c most ((allL c.length).getD i []) = decide (totP c (row (allL c.length) i) c.length ≤ most) := by rw [hrow]; rfl
    rw [hbe] at hsn
    (repeat (first | with_reducible refine W.seq ?_ | with_reducible refine W.region ?_ | refine z_p (kk := ?_) | with_reducible refine W.skip ?_ | with_reducible refine W.block ?_ | refine z_r (kk := fun _ _ _ _ => ?_)))
    rename_i Ai mi _ hsi
    refine Ops.call rfl rfl rfl rfl rfl (refTotal_c (hM.below hb03) hC (Sl.below hsi hb3) (fun q hq => (hai.2 q hq).1) (by rw [hai.1]; exact Nat.le_refl _)) (fun r w4 hR => ?_)
    obtain ⟨rfl, hb4⟩ := hR
    have hb14 := Below.via hb3 hb4
    rw [show totP c (row (allL c.length) i) (row (allL c.length) i).length = totP c (row (allL c.length) i) c.length by rw [hai.1]]
    (repeat (first | with_reducible refine Ops.nil ?_ | refine z_p (kk := ?_)))
    by_cases h1 : totP c (row (allL c.length) i) c.length ≤ most
    · rw [decide_eq_true h1, if_pos rfl] at hsn
      refine W.condT rfl (by first | rfl | assumption | (simp only [bnf] <;> omega) | (simp only [*, bnf]; done) | fail) ?_
      (repeat (first | with_reducible refine Ops.nil ?_ | with_reducible refine W.region ?_ | refine z_p (kk := ?_) | refine z_a (kk := ?_) | with_reducible refine W.endb ?_))
      refine W.endl ⟨_, _, ⟨⟨i + 1, rfl, by omega, rfl, hb14⟩, by omega⟩, ?_⟩
      rw [hsn]
      exact (by repeat (first | exact trivial | refine And.intro rfl ?_))
    · rw [decide_eq_false h1, if_neg (by simp)] at hsn
      refine W.condF rfl (by first | rfl | assumption | (simp only [bnf] <;> omega) | (simp only [*, bnf]; done) | fail) ?_
      (repeat (first | with_reducible refine Ops.nil ?_ | with_reducible refine W.region ?_ | refine z_p (kk := ?_) | refine z_a (kk := ?_) | with_reducible refine W.skip ?_ | with_reducible refine W.endb ?_))
      refine W.endl ⟨_, _, ⟨⟨i + 1, rfl, by omega, rfl, hb14⟩, by omega⟩, ?_⟩
      rw [hsn]
      exact (by repeat (first | exact trivial | refine And.intro rfl ?_))
  · have hil : i = (allL c.length).length := by omega
    subst hil
    rw [List.take_length]
    (repeat (first | with_reducible refine W.seq ?_ | with_reducible refine Ops.nil ?_ | with_reducible refine W.region ?_ | refine z_p (kk := ?_) | refine W.exit rfl ?_))
    exact W.fret rfl ⟨rfl, hb03⟩
set_option maxHeartbeats 4000000 in
theorem itemsLaw_c {w : World} {mv : Value} {k : Int} {l : List (List Int)} (hm : ArgR w mv l) :
    Calls Try.prog 12 #[mv, .int .i64 k] w (Ret fun r w' => r = .bool true ∧ Below w.heap.size w w') := by
  refine calls_W (vs := [_, _]) Try.func12 rfl (by kernel_rfl) rfl ?_
  (repeat (first | with_reducible refine W.seq ?_ | with_reducible refine Ops.nil ?_ | with_reducible refine W.region ?_ | refine z_p (kk := ?_)))
  refine Ops.call rfl rfl rfl rfl rfl (table_c hm) (fun tv w1 hR => ?_)
  obtain ⟨cvs, hR⟩ := hR
  have hb1 := hR.o.bel
  have hM1 := hR.rowsM
  clear hR hm
  generalize tab l = c at *
  obtain ⟨At, ct, rfl⟩ := hM1.sl
  (repeat (first | with_reducible refine W.seq ?_ | with_reducible refine Ops.nil ?_ | with_reducible refine W.region ?_ | refine z_p (kk := ?_)))
  refine Ops.call rfl rfl rfl rfl rfl (Item_c hM1) (fun r w2 hR2 => ?_)
  obtain ⟨hb2, hyes, hno⟩ := hR2
  have hb02 := Below.via hb1 hb2
  have hM2 := hM1.below hb2
  cases hc : costsB c with
  | false =>
    obtain rfl := hno (by simp [hc])
    (repeat (first | with_reducible refine W.seq ?_ | with_reducible refine Ops.nil ?_ | with_reducible refine W.region ?_ | refine z_p (kk := ?_)))
    refine Ops.call rfl rfl rfl rfl rfl (Within_c hM2) (fun r w3 hR => ?_)
    obtain ⟨rfl, hb3⟩ := hR
    have hM3 := hM2.below hb3
    rw [if_neg (by simp [hc])]
    (repeat (first | with_reducible refine W.seq ?_ | with_reducible refine Ops.nil ?_ | with_reducible refine W.region ?_ | refine z_p (kk := ?_)))
    refine Ops.call rfl rfl rfl rfl rfl (refCosts_c hM3) (fun r w5 hR5 => ?_)
    obtain ⟨rfl, hb5⟩ := hR5
    rw [hc]
    (repeat (first | with_reducible refine Ops.nil ?_ | refine z_p (kk := ?_)))
    refine W.condT rfl (by first | rfl | assumption | (simp only [bnf] <;> omega) | (simp only [*, bnf]; done) | fail) ?_
    (repeat (first | with_reducible refine W.seq ?_ | with_reducible refine W.region ?_ | refine z_p (kk := ?_) | refine z_y (kk := ?_) | refine z_l (kk := ?_)))
    refine Ops.call rfl rfl rfl rfl rfl (awake_c _) (fun r w6 hR => ?_)
    obtain ⟨rfl, hb6⟩ := hR
    (repeat (first | with_reducible refine Ops.nil ?_ | refine z_p (kk := ?_)))
    exact W.fret rfl ⟨rfl, Below.via hb02 (Below.via hb3 (Below.via hb5 hb6))⟩
  | true =>
    have hC := costs_iff.1 hc
    have hn7 := hC.n7
    have hL := levL_lt (n := c.length) (i := c.length) hn7 hn7
    have hpos := allL_pos (n := c.length)
    change (allL c.length).length ≤ 823543 at hL
    simp only [hc, true_and] at hyes hno
    by_cases hin : 0 ≤ k ∧ k < (allL c.length).length
    · obtain ⟨v, p, rfl, hp, hpk, hsv⟩ := hyes hin
      obtain ⟨k0, rfl⟩ := Int.eq_ofNat_of_zero_le hin.1
      have hpa := all_asg hp
      have hk0 : k0 < (allL c.length).length := by omega
      replace hsv := hsv.1
      obtain ⟨Av, mv', rfl⟩ := Sl.shape hsv
      (repeat (first | with_reducible refine W.seq ?_ | with_reducible refine Ops.nil ?_ | with_reducible refine W.region ?_ | refine z_p (kk := ?_)))
      refine Ops.call rfl rfl rfl rfl rfl (Within_c hM2) (fun r w3 hR => ?_)
      obtain ⟨rfl, hb3⟩ := hR
      have hM3 := hM2.below hb3
      rw [if_pos hc]
      (repeat (first | with_reducible refine W.seq ?_ | with_reducible refine Ops.nil ?_ | with_reducible refine W.region ?_ | refine z_p (kk := ?_)))
      refine Ops.call rfl rfl rfl rfl rfl (refCosts_c hM3) (fun r w5 hR5 => ?_)
      obtain ⟨rfl, hb5⟩ := hR5
      rw [hc]
      have hM5 := hM3.below hb5
      (repeat (first | with_reducible refine Ops.nil ?_ | refine z_p (kk := ?_)))
      refine W.condF rfl (by first | rfl | assumption | (simp only [bnf] <;> omega) | (simp only [*, bnf]; done) | fail) ?_
      (repeat (first | with_reducible refine W.seq ?_ | with_reducible refine W.region ?_ | refine z_p (kk := ?_) | with_reducible refine W.skip ?_))
      refine Ops.call rfl rfl rfl rfl rfl (refWithin_c hM5 hC) (fun r w6 hR => ?_)
      obtain ⟨rfl, hb6⟩ := hR
      have hM6 := hM5.below hb6
      (repeat (first | with_reducible refine Ops.nil ?_ | refine z_p (kk := ?_) | refine z_y (kk := ?_) | refine z_h (kk := ?_)))
      refine W.condF rfl (by first | rfl | assumption | (simp only [bnf] <;> omega) | (simp only [*, bnf]; done) | fail) ?_
      (repeat (first | with_reducible refine W.seq ?_ | with_reducible refine W.region ?_ | refine z_p (kk := ?_) | refine z_y (kk := ?_) | with_reducible refine W.skip ?_ | refine z_l (kk := ?_)))
      refine Ops.call rfl rfl rfl rfl rfl (All_c hn7) (fun r w7 hR => ?_)
      obtain ⟨lvs, hR⟩ := hR
      have hb7 := hR.o.bel
      have hML := hR.rowsM
      obtain ⟨AL, cL, rfl⟩ := hML.sl
      (repeat (first | with_reducible refine Ops.nil ?_ | refine z_p (kk := ?_) | refine z_y (kk := ?_) | refine z_l (kk := ?_)))
      refine W.condF rfl (by first | rfl | assumption | (simp only [bnf] <;> omega) | (simp only [*, bnf]; done) | fail) ?_
      (repeat (first | with_reducible refine W.seq ?_ | with_reducible refine W.region ?_ | refine z_p (kk := ?_) | with_reducible refine W.skip ?_))
      refine Ops.call rfl rfl rfl rfl rfl (Item_ref_c (hM6.below hb7) hC hk0) (fun r w8 hR8 => ?_)
      obtain ⟨⟨p2, hp2, hpk2, hs2⟩, hb8⟩ := hR8
      have hpp : p = p2 := rank_inj hp hp2 (by rw [hpk, hpk2]; simp)
      subst hpp
      have hb38 := Below.via hb3 (Below.via hb5 (Below.via hb6 (Below.via hb7 hb8)))
      skip
      refine Ops.call rfl rfl rfl rfl rfl (ints_c (Sl.below hsv hb38) hs2) (fun r w9 hR => ?_)
      obtain ⟨rfl, hb9⟩ := hR
      rw [decide_eq_true rfl]
      (repeat (first | refine z_p (kk := ?_) | refine z_y (kk := ?_)))
      refine Ops.call rfl rfl rfl rfl rfl (awake_c _) (fun r w10 hR => ?_)
      obtain ⟨rfl, hb10⟩ := hR
      (repeat (first | with_reducible refine Ops.nil ?_ | refine z_p (kk := ?_)))
      exact W.fret rfl ⟨rfl, Below.via hb02 (Below.via hb38 (Below.via hb9 hb10))⟩
    · obtain rfl := hno hin
      clear hyes hno
      (repeat (first | with_reducible refine W.seq ?_ | with_reducible refine Ops.nil ?_ | with_reducible refine W.region ?_ | refine z_p (kk := ?_)))
      refine Ops.call rfl rfl rfl rfl rfl (Within_c hM2) (fun r w3 hR => ?_)
      obtain ⟨rfl, hb3⟩ := hR
      have hM3 := hM2.below hb3
      rw [if_pos hc]
      (repeat (first | with_reducible refine W.seq ?_ | with_reducible refine Ops.nil ?_ | with_reducible refine W.region ?_ | refine z_p (kk := ?_)))
      refine Ops.call rfl rfl rfl rfl rfl (refCosts_c hM3) (fun r w5 hR5 => ?_)
      obtain ⟨rfl, hb5⟩ := hR5
      rw [hc]
      have hM5 := hM3.below hb5
      (repeat (first | with_reducible refine Ops.nil ?_ | refine z_p (kk := ?_)))
      refine W.condF rfl (by first | rfl | assumption | (simp only [bnf] <;> omega) | (simp only [*, bnf]; done) | fail) ?_
      (repeat (first | with_reducible refine W.seq ?_ | with_reducible refine W.region ?_ | refine z_p (kk := ?_) | with_reducible refine W.skip ?_))
      refine Ops.call rfl rfl rfl rfl rfl (refWithin_c hM5 hC) (fun r w6 hR => ?_)
      obtain ⟨rfl, hb6⟩ := hR
      have hM6 := hM5.below hb6
      (repeat (first | with_reducible refine Ops.nil ?_ | refine z_p (kk := ?_) | refine z_y (kk := ?_) | refine z_h (kk := ?_)))
      refine W.condF rfl (by first | rfl | assumption | (simp only [bnf] <;> omega) | (simp only [*, bnf]; done) | fail) ?_
      have hb06 := Below.via hb02 (Below.via hb3 (Below.via hb5 hb6))
      by_cases hk : k < 0
      · (repeat (first | with_reducible refine W.seq ?_ | with_reducible refine Ops.nil ?_ | with_reducible refine W.region ?_ | refine z_p (kk := ?_) | refine z_n (kk := ?_) | with_reducible refine W.skip ?_ | refine z_g (kk := ?_)))
        refine W.condT rfl (by first | rfl | assumption | (simp only [bnf] <;> omega) | (simp only [*, bnf]; done) | fail) ?_
        (repeat (first | with_reducible refine W.seq ?_ | with_reducible refine W.region ?_ | refine z_p (kk := ?_) | refine z_y (kk := ?_) | refine z_l (kk := ?_)))
        refine Ops.call rfl rfl rfl rfl rfl (awake_c _) (fun r w10 hR => ?_)
        obtain ⟨rfl, hb10⟩ := hR
        (repeat (first | with_reducible refine Ops.nil ?_ | refine z_p (kk := ?_)))
        exact W.fret rfl ⟨rfl, Below.via hb06 hb10⟩
      · (repeat (first | with_reducible refine W.seq ?_ | with_reducible refine W.region ?_ | refine z_p (kk := ?_) | refine z_y (kk := ?_) | with_reducible refine W.skip ?_ | refine z_l (kk := ?_) | refine z_h (kk := ?_)))
        refine Ops.call rfl rfl rfl rfl rfl (All_c hn7) (fun r w7 hR => ?_)
        obtain ⟨lvs, hR⟩ := hR
        have hb7 := hR.o.bel
        have hML := hR.rowsM
        obtain ⟨AL, cL, rfl⟩ := hML.sl
        have hge : decide (k ≥ (allL c.length).length) = true := by rw [decide_eq_true_eq]; omega
        (repeat (first | with_reducible refine Ops.nil ?_ | refine z_p (kk := ?_) | refine z_y (kk := ?_) | refine z_l (kk := ?_)))
        refine W.condT rfl (by first | rfl | assumption | (simp only [bnf] <;> omega) | (simp only [*, bnf]; done) | fail) ?_
        (repeat (first | with_reducible refine W.seq ?_ | with_reducible refine W.region ?_ | refine z_p (kk := ?_) | refine z_y (kk := ?_) | refine z_l (kk := ?_)))
        refine Ops.call rfl rfl rfl rfl rfl (awake_c _) (fun r w10 hR => ?_)
        obtain ⟨rfl, hb10⟩ := hR
        (repeat (first | with_reducible refine Ops.nil ?_ | refine z_p (kk := ?_)))
        exact W.fret rfl ⟨rfl, Below.via hb06 (Below.via hb7 hb10)⟩
end Go.Proofs.Ytehjmakiljhjdaa
/- Plain: how many are within a total, and what follows the k-th. -/
namespace Go.Proofs.Ytehjmakiljhjdaa
open Go Go.RowKit Go.Proofs.Ytehjmakiljhjdaa.VW
theorem cnL_ct (P : List Int → Bool) (n : Nat) : cnL P (allL n) = ct (fun q => P ((allL n).getD q [])) (allL n).length := by
  have e : allL n = (List.range (allL n).length).map (fun i => (allL n).getD i []) := List.ext_getElem (by simp) fun i h1 h2 => by simp [List.getD_eq_getElem?_getD, h1]
  unfold cnL
  rw [ct_filter]
  conv => lhs; rw [e]
  rw [List.filter_map, List.length_map]
  rfl
theorem beT_all {c : List (List Int)} {p q : Nat} (hp : p < (allL c.length).length) (hq : q < (allL c.length).length) : beT c ((allL c.length).getD p []) ((allL c.length).getD q []) = bef c q p := by
  unfold beT bef
  rw [lex_lt hq hp]
  rfl
theorem idx_rank {c : List (List Int)} {p : Nat} (hp : p < (allL c.length).length) : cnL (beT c ((allL c.length).getD p [])) (allL c.length) = rank c p := by
  rw [cnL_ct, rank_bef hp]
  exact ct_congr _ fun i hi => beT_all hp hi
def wi (c : List (List Int)) (p : Nat) : Nat := cnL (leT c (totP c ((allL c.length).getD p []) c.length)) (allL c.length)
theorem wi_ct {c : List (List Int)} {p : Nat} : wi c p = ct (fun q => decide (tt c q ≤ tt c p)) (allL c.length).length := cnL_ct _ _
theorem wi_gt {c : List (List Int)} {p : Nat} (hp : p < (allL c.length).length) : rank c p < wi c p := by
  rw [wi_ct, rank_bef hp]
  refine ct_ssub (j := p) _ (fun i hi h => ?_) hp bef_irr (by simp)
  unfold bef at h
  simp only [Bool.or_eq_true, Bool.and_eq_true, decide_eq_true_eq] at h ⊢
  omega
theorem wi_le {c : List (List Int)} {p : Nat} : wi c p ≤ (allL c.length).length := by rw [wi_ct]; exact ct_le _ _
theorem wi_next {c : List (List Int)} {p p2 : Nat} (hp : p < (allL c.length).length) (hp2 : p2 < (allL c.length).length) (h : rank c p2 = rank c p + 1) :
    (tt c p < tt c p2 ∧ wi c p = rank c p + 1) ∨ (tt c p = tt c p2 ∧ p < p2 ∧ rank c p + 1 < wi c p) := by
  have hb : bef c p p2 = true := by
    have hne : p ≠ p2 := fun e => by subst e; omega
    rcases bef_total (c := c) hne with e | e
    · exact e
    · have := rank_lt hp2 hp e; omega
  have hgt := wi_gt hp
  unfold bef at hb
  simp only [Bool.or_eq_true, Bool.and_eq_true, decide_eq_true_eq] at hb
  rcases hb with hb | ⟨hb1, hb2⟩
  · left
    refine ⟨hb, ?_⟩
    have : wi c p ≤ rank c p2 := by
      rw [wi_ct, rank_bef hp2]
      refine ct_sub _ (fun i hi hle => ?_)
      unfold bef
      simp only [Bool.or_eq_true, Bool.and_eq_true, decide_eq_true_eq] at hle ⊢
      omega
    omega
  · right
    refine ⟨hb1, hb2, ?_⟩
    have := wi_gt hp2
    rw [wi_ct] at this ⊢
    rw [hb1]
    omega
def facN : Nat → Nat
  | 0 => 1
  | n + 1 => facN n * (n + 1)
theorem all_fac : ∀ n, n ≤ 6 → (allL n).length = facN n := by decide +kernel
end Go.Proofs.Ytehjmakiljhjdaa
namespace Go.Proofs.Ytehjmakiljhjdaa
open Go Go.RowKit Go.Proofs.Ytehjmakiljhjdaa.VW
attribute [local irreducible] W Ops OrdA VW.Ord OrdX
theorem fac_c {n : Nat} (hn : 1 ≤ n) (hn6 : n ≤ 6) (w : World) : Calls Try.prog 51 #[.int .i64 (n : Int)] w (Ret fun r w' => r = .int .i64 (facN n : Nat) ∧ w' = w) := by
  refine calls_W (vs := [_]) Try.func51 rfl (by kernel_rfl) rfl ?_
  (repeat (first | with_reducible refine W.seq ?_ | with_reducible refine Ops.nil ?_ | with_reducible refine W.region ?_ | refine z_p (kk := ?_) | with_reducible refine W.block ?_))
  refine W.loop (fun m ρ w1 => ∃ (i : Nat), m = n - i ∧ 1 ≤ i ∧ i ≤ n ∧ w1 = w ∧ ρ = [(0, .int .i64 (n : Int)), (3, .int .i64 (facN i : Nat)), (4, .int .i64 ((i + 1 : Nat) : Int))])
    ⟨_, _, ⟨1, rfl, Nat.le_refl _, hn, rfl, rfl⟩, (by repeat (first | exact trivial | refine And.intro rfl ?_))⟩ ?_
  rintro m ρ w1 ⟨i, rfl, hi1, hi, rfl, rfl⟩
  (repeat (first | with_reducible refine W.seq ?_ | with_reducible refine Ops.nil ?_ | with_reducible refine W.region ?_ | refine z_p (kk := ?_)))
  by_cases h : i + 1 ≤ n
  · have hfb : facN i ≤ 120 ∧ (facN i : Int) * ((i + 1 : Nat) : Int) = (facN (i + 1) : Nat) ∧ facN (i + 1) ≤ 720 := by
      have : i = 1 ∨ i = 2 ∨ i = 3 ∨ i = 4 ∨ i = 5 := by omega
      rcases this with rfl | rfl | rfl | rfl | rfl <;> decide
    refine W.condT rfl (by first | rfl | assumption | (simp only [bnf] <;> omega) | (simp only [*, bnf]; done) | fail) ?_
    (repeat (first | with_reducible refine W.seq ?_ | with_reducible refine Ops.nil ?_ | with_reducible refine W.region ?_ | refine z_p (kk := ?_) | refine z_a (kk := ?_) | with_reducible refine W.skip ?_ | with_reducible refine W.endb ?_ | with_reducible refine W.block ?_))
    rw [hfb.2.1, show ((i + 1 : Nat) : Int) + 1 = ((i + 1 + 1 : Nat) : Int) by omega]
    exact W.endl ⟨_, _, ⟨⟨i + 1, rfl, by omega, h, rfl, rfl⟩, by omega⟩, (by repeat (first | exact trivial | refine And.intro rfl ?_))⟩
  · have : i = n := by omega
    subst this
    refine W.condF rfl (by first | rfl | assumption | (simp only [bnf] <;> omega) | (simp only [*, bnf]; done) | fail) ?_
    (repeat (first | with_reducible refine W.seq ?_ | with_reducible refine Ops.nil ?_ | with_reducible refine W.region ?_ | refine z_p (kk := ?_) | refine W.exit rfl ?_))
    exact W.fret rfl ⟨rfl, rfl⟩
set_option maxHeartbeats 1000000 in
theorem lawBefore_c {w : World} {av bv : Value} {a b : List Int} (ha : SlI w av a) (hb : SlI w bv b) (hab : a.length = b.length) : Calls Try.prog 52 #[av, bv] w (Ret fun r w' => r = .bool (lexB a b) ∧ Below w.heap.size w w') := by
  have hal := Sl.len ha
  obtain ⟨Aa, ca, rfl⟩ := Sl.shape ha
  obtain ⟨Ab, cb, rfl⟩ := Sl.shape hb
  refine calls_W (vs := [_, _]) Try.func52 rfl (by kernel_rfl) rfl ?_
  (repeat (first | with_reducible refine W.seq ?_ | with_reducible refine Ops.nil ?_ | with_reducible refine W.region ?_ | refine z_p (kk := ?_) | with_reducible refine W.block ?_))
  refine W.loop (fun m ρ w1 => ∃ (i : Nat), m = a.length - i ∧ i ≤ a.length ∧ Below w.heap.size w w1 ∧ ρ = [(0, .slice Aa a.length ca), (1, .slice Ab b.length cb), (5, .int .i64 i)] ∧ ∀ q, q < i → a.getD q 0 = b.getD q 0)
    ⟨_, _, ⟨0, rfl, Nat.zero_le _, Below.refl _ _, rfl, fun q hq => by omega⟩, (by repeat (first | exact trivial | refine And.intro rfl ?_))⟩ ?_
  rintro m ρ w1 ⟨i, rfl, hi, hb1, rfl, heq⟩
  by_cases hil : i < a.length
  · (repeat (first | with_reducible refine W.seq ?_ | with_reducible refine Ops.nil ?_ | with_reducible refine W.region ?_ | refine z_p (kk := ?_) | refine z_y (kk := ?_) | refine z_l (kk := ?_) | refine z_h (kk := ?_)))
    refine W.condT rfl (by first | rfl | assumption | (simp only [bnf] <;> omega) | (simp only [*, bnf]; done) | fail) ?_
    (repeat (first | with_reducible refine W.seq ?_ | with_reducible refine W.skip ?_ | with_reducible refine W.block ?_))
    refine W.ordA 99 [(0, 1), (1, 1), (2, 1), (3, 2), (4, 1), (5, 1), (6, 1), (7, 2), (8, 1)] rfl (by kernel_rfl) rfl (by kernel_rfl) (fun _ _ _ h => h) ?_
    (repeat (first | refine x_p (kk := ?_) | refine x_I (kk := fun _ => ?_)))
    refine OrdA.nil (fun w2 hb2 => ?_)
    have hb02 := Below.via hb1 hb2
    by_cases hz : a.getD i 0 = b.getD i 0
    · skip
      refine W.condF rfl (by first | rfl | assumption | (simp only [bnf] <;> omega) | (simp only [*, bnf]; done) | fail) ?_
      (repeat (first | with_reducible refine Ops.nil ?_ | with_reducible refine W.region ?_ | refine z_p (kk := ?_) | refine z_a (kk := ?_) | with_reducible refine W.skip ?_ | with_reducible refine W.endb ?_))
      exact W.endl ⟨_, _, ⟨⟨i + 1, rfl, by omega, hb02, rfl, fun q hq => by
        by_cases e : q = i
        · rw [e]; exact hz
        · exact heq q (by omega)⟩, by omega⟩, (by repeat (first | exact trivial | refine And.intro rfl ?_))⟩
    · skip
      refine W.condT rfl (by first | rfl | assumption | (simp only [bnf] <;> omega) | (simp only [*, bnf]; done) | fail) ?_
      (repeat (first | with_reducible refine W.seq ?_))
      refine W.ordA 99 [(0, 1), (1, 1), (2, 1), (3, 2), (4, 1), (5, 1), (6, 1), (7, 2), (8, 1), (9, 1)] rfl (by kernel_rfl) rfl (by kernel_rfl) (fun _ _ _ h => h) ?_
      (repeat (first | refine x_p (kk := ?_) | refine x_I (kk := fun _ => ?_)))
      refine OrdA.nil (fun w3 hb3 => ?_)
      skip
      refine W.fret rfl ⟨?_, Below.via hb02 hb3⟩
      show Value.bool _ = _
      congr 1
      have hne : cmI (a.getD i 0) (b.getD i 0) ≠ 0 := fun h => hz (cmI_zero.1 h)
      have h1 := slC_at heq hil (by omega) hne
      have h2 := (slC_lex a b).1
      rw [h1, cmI_neg] at h2
      rw [Bool.eq_iff_iff, ← h2, decide_eq_true_eq]
  · have hil : i = a.length := by omega
    subst hil
    (repeat (first | with_reducible refine W.seq ?_ | with_reducible refine Ops.nil ?_ | with_reducible refine W.region ?_ | refine z_p (kk := ?_) | refine z_n (kk := ?_) | refine z_l (kk := ?_) | refine z_g (kk := ?_)))
    refine W.condF rfl (by first | rfl | assumption | (simp only [bnf] <;> omega) | (simp only [*, bnf]; done) | fail) ?_
    (repeat (first | with_reducible refine W.seq ?_ | with_reducible refine Ops.nil ?_ | with_reducible refine W.region ?_ | refine z_p (kk := ?_) | refine W.exit rfl ?_ | refine z_l (kk := ?_)))
    refine W.fret rfl ⟨?_, hb1⟩
    have hx := list_ext hab (fun q hq => heq q hq)
    rw [decide_eq_false (show ¬ ((a.length : Int) < b.length) by omega), hx, lexB_irr]
    rfl
set_option maxHeartbeats 4000000 in
set_option maxRecDepth 20000 in
theorem orderedLaw_c {w : World} {mv : Value} {n k : Int} {l : List (List Int)} (hm : ArgR w mv l) :
    Calls Try.prog 14 #[.int .i64 n, mv, .int .i64 k] w (Ret fun r w' => r = .bool true ∧ Below w.heap.size w w') := by
  refine calls_W (vs := [_, _, _]) Try.func14 rfl (by kernel_rfl) rfl ?_
  (repeat (first | with_reducible refine W.seq ?_ | with_reducible refine Ops.nil ?_ | with_reducible refine W.region ?_ | refine z_p (kk := ?_)))
  refine Ops.callS rfl rfl rfl rfl rfl (mod_c _ _ _ (by omega) (by omega)) ?_
  have hmb := modI_bd n (n := 6) (by omega)
  obtain ⟨n0, hn0⟩ := Int.eq_ofNat_of_zero_le hmb.1
  rw [hn0] at hmb ⊢
  (repeat (first | with_reducible refine W.seq ?_ | with_reducible refine Ops.nil ?_ | with_reducible refine W.region ?_ | refine z_p (kk := ?_) | refine z_a (kk := ?_)))
  rw [show (1 : Int) + ((n0 : Nat) : Int) = ((n0 + 1 : Nat) : Int) by omega]
  refine Ops.call rfl rfl rfl rfl rfl (tame_c hm.1 (n := n0 + 1) (by omega) (by omega) (by omega)) (fun tv w2 hR => ?_)
  obtain ⟨cvs, hR⟩ := hR
  have hb2 := hR.o.bel
  have hA2 := hR.argR
  change ArgR w2 tv (tmC l (n0 + 1) 1000) at hA2
  have hC := tmC_cst l (n := n0 + 1) (most := 1000) (by omega) (by omega) (by omega) (by omega)
  have hcl := tmC_len l (n0 + 1) 1000
  generalize tmC l (n0 + 1) 1000 = c at *
  clear hR
  have hcB : costsB c = true := costs_iff.2 hC
  have hn7 := hC.n7
  have hM2 := hA2.1
  clear hA2
  obtain ⟨Ac, cc, rfl⟩ := hM2.sl
  have hpos := allL_pos (n := c.length)
  have hfac := all_fac c.length (by omega)
  have hL := levL_lt (n := c.length) (i := c.length) hn7 hn7
  change (allL c.length).length ≤ 823543 at hL
  (repeat (first | with_reducible refine W.seq ?_ | with_reducible refine Ops.nil ?_ | with_reducible refine W.region ?_ | refine z_p (kk := ?_)))
  refine Ops.callS rfl rfl rfl rfl rfl (fac_c (n := n0 + 1) (by omega) (by omega) _) ?_
  rw [← hcl, ← hfac]
  generalize hN : (allL c.length).length = N at *
  (repeat (first | with_reducible refine W.seq ?_ | with_reducible refine Ops.nil ?_ | with_reducible refine W.region ?_ | refine z_p (kk := ?_)))
  refine Ops.callS rfl rfl rfl rfl rfl (mod_c _ _ _ (by omega) (by omega)) ?_
  have hmk := modI_bd k (n := N) (by omega)
  obtain ⟨k0, hk0⟩ := Int.eq_ofNat_of_zero_le hmk.1
  rw [hk0] at hmk ⊢
  have hkN : k0 < N := by omega
  (repeat (first | with_reducible refine W.seq ?_ | with_reducible refine Ops.nil ?_ | with_reducible refine W.region ?_ | refine z_p (kk := ?_)))
  refine Ops.call rfl rfl rfl rfl rfl (Item_c hM2) (fun r w3 hR => ?_)
  obtain ⟨hb3, hyes, -⟩ := hR
  obtain ⟨v, p, rfl, hp, hpk, hv3⟩ := hyes ⟨hcB, by omega, by omega⟩
  rw [Int.toNat_natCast] at hpk
  clear hyes
  have hM3 := hM2.below hb3
  have hpa := all_asg hp
  obtain ⟨Av, cv, rfl⟩ := Sl.shape hv3.1
  (repeat (first | with_reducible refine W.seq ?_ | with_reducible refine Ops.nil ?_ | with_reducible refine W.region ?_ | refine z_p (kk := ?_)))
  refine Ops.call rfl rfl rfl rfl rfl (Index_c hM3 hv3) (fun r w4 hR => ?_)
  obtain ⟨rfl, hb4⟩ := hR
  rw [if_pos ⟨hcB, hpa⟩, idx_rank hp, hpk]
  have hM4 := hM3.below hb4
  have hv4 := hv3.below hb4
  (repeat (first | with_reducible refine W.seq ?_ | with_reducible refine Ops.nil ?_ | with_reducible refine W.region ?_ | refine z_p (kk := ?_)))
  refine Ops.call rfl rfl rfl rfl rfl (Total_c hM4 hv4) (fun r w5 hR => ?_)
  obtain ⟨rfl, hb5⟩ := hR
  rw [if_pos ⟨hcB, hpa⟩]
  have hM5 := hM4.below hb5
  have hv5 := hv4.below hb5
  (repeat (first | with_reducible refine W.seq ?_ | with_reducible refine Ops.nil ?_ | with_reducible refine W.region ?_ | refine z_p (kk := ?_)))
  refine Ops.call rfl rfl rfl rfl rfl (Within_c hM5) (fun r w6 hR => ?_)
  obtain ⟨rfl, hb6⟩ := hR
  rw [if_pos hcB]
  change Ops _ _ _ _ _ _ _ _ ((_, .tuple #[.int .i64 (wi c p : Nat), .int .i64 0]) :: _) _
  have hM6 := hM5.below hb6
  have hv6 := hv5.below hb6
  have hw1 := wi_gt hp
  have hw2 := wi_le (c := c) (p := p)
  rw [hpk] at hw1
  rw [hN] at hw2
  have hb06 := Below.via hb2 (Below.via hb3 (Below.via hb4 (Below.via hb5 hb6)))
  (repeat (first | with_reducible refine W.seq ?_ | with_reducible refine Ops.nil ?_ | with_reducible refine W.region ?_ | refine z_p (kk := ?_) | refine z_y (kk := ?_) | refine z_h (kk := ?_)))
  refine W.condF rfl (by first | rfl | assumption | (simp only [bnf] <;> omega) | (simp only [*, bnf]; done) | fail) ?_
  (repeat (first | with_reducible refine W.seq ?_ | with_reducible refine Ops.nil ?_ | with_reducible refine W.region ?_ | refine z_p (kk := ?_) | refine z_a (kk := ?_) | with_reducible refine W.skip ?_))
  by_cases hlast : k0 + 1 = N
  · refine W.condT rfl (by first | rfl | assumption | (simp only [bnf] <;> omega) | (simp only [*, bnf]; done) | fail) ?_
    (repeat (first | with_reducible refine W.seq ?_ | with_reducible refine W.region ?_ | refine z_p (kk := ?_) | refine z_a (kk := ?_)))
    refine Ops.call rfl rfl rfl rfl rfl (Item_c hM6) (fun r w7 hR => ?_)
    obtain ⟨hb7, -, hno⟩ := hR
    obtain rfl := hno (fun h => by omega)
    clear hno
    (repeat (first | with_reducible refine W.seq ?_ | with_reducible refine Ops.nil ?_ | with_reducible refine W.region ?_ | refine z_p (kk := ?_) | refine z_y (kk := ?_) | refine z_h (kk := ?_)))
    refine Ops.call rfl rfl rfl rfl rfl (awake_c _) (fun r w10 hR => ?_)
    obtain ⟨rfl, hb10⟩ := hR
    (repeat (first | with_reducible refine Ops.nil ?_ | refine z_p (kk := ?_)))
    exact W.fret rfl ⟨rfl, Below.via hb06 (Below.via hb7 hb10)⟩
  · refine W.condF rfl (by first | rfl | assumption | (simp only [bnf] <;> omega) | (simp only [*, bnf]; done) | fail) ?_
    (repeat (first | with_reducible refine W.seq ?_ | with_reducible refine W.region ?_ | refine z_p (kk := ?_) | refine z_a (kk := ?_) | with_reducible refine W.skip ?_))
    refine Ops.call rfl rfl rfl rfl rfl (Item_c hM6) (fun r w7 hR => ?_)
    obtain ⟨hb7, hyes, -⟩ := hR
    obtain ⟨v2, p2, rfl, hp2, hpk2, hv7⟩ := hyes ⟨hcB, by omega, by omega⟩
    rw [show ((k0 : Int) + 1).toNat = k0 + 1 by omega] at hpk2
    clear hyes
    have hM7 := hM6.below hb7
    have hpa2 := all_asg hp2
    have hv67 := hv6.below hb7
    obtain ⟨Av2, cv2, rfl⟩ := Sl.shape hv7.1
    (repeat (first | with_reducible refine W.seq ?_ | with_reducible refine Ops.nil ?_ | with_reducible refine W.region ?_ | refine z_p (kk := ?_)))
    refine Ops.call rfl rfl rfl rfl rfl (Total_c hM7 hv7) (fun r w8 hR => ?_)
    obtain ⟨rfl, hb8⟩ := hR
    rw [if_pos ⟨hcB, hpa2⟩]
    have hnx := wi_next hp hp2 (by rw [hpk, hpk2])
    rw [hpk] at hnx
    change (totP c ((allL c.length).getD p []) c.length < totP c ((allL c.length).getD p2 []) c.length ∧ _) ∨ (totP c ((allL c.length).getD p []) c.length = totP c ((allL c.length).getD p2 []) c.length ∧ _) at hnx
    have hb08 := Below.via hb06 (Below.via hb7 hb8)
    rcases hnx with ⟨h1, h2⟩ | ⟨h1, h2, h3⟩
    · (repeat (first | with_reducible refine W.seq ?_ | with_reducible refine Ops.nil ?_ | with_reducible refine W.region ?_ | refine z_p (kk := ?_) | refine z_a (kk := ?_) | refine z_y (kk := ?_) | refine z_n (kk := ?_) | refine z_u (kk := ?_) | refine z_g (kk := ?_) | refine z_h (kk := ?_)))
      refine Ops.call rfl rfl rfl rfl rfl (awake_c _) (fun r w10 hR => ?_)
      obtain ⟨rfl, hb10⟩ := hR
      (repeat (first | with_reducible refine Ops.nil ?_ | refine z_p (kk := ?_)))
      exact W.fret rfl ⟨rfl, Below.via hb08 hb10⟩
    · (repeat (first | with_reducible refine W.seq ?_ | with_reducible refine Ops.nil ?_ | with_reducible refine W.region ?_ | refine z_p (kk := ?_) | refine z_y (kk := ?_) | refine z_n (kk := ?_) | refine z_g (kk := ?_) | refine z_h (kk := ?_)))
      refine Ops.call rfl rfl rfl rfl rfl (lawBefore_c (Sl.below hv67.1 hb8) (Sl.below hv7.1 hb8) (by rw [hpa.1, hpa2.1])) (fun r w9 hR => ?_)
      obtain ⟨rfl, hb9⟩ := hR
      rw [lex_lt hp hp2, decide_eq_true h2]
      (repeat (first | refine z_p (kk := ?_) | refine z_a (kk := ?_) | refine z_y (kk := ?_) | refine z_h (kk := ?_)))
      refine Ops.call rfl rfl rfl rfl rfl (awake_c _) (fun r w10 hR => ?_)
      obtain ⟨rfl, hb10⟩ := hR
      (repeat (first | with_reducible refine Ops.nil ?_ | refine z_p (kk := ?_)))
      exact W.fret rfl ⟨rfl, Below.via hb08 (Below.via hb9 hb10)⟩
end Go.Proofs.Ytehjmakiljhjdaa
/- Plain: a row and a column shifted. -/
namespace Go.Proofs.Ytehjmakiljhjdaa
open Go Go.RowKit Go.Proofs.Ytehjmakiljhjdaa.VW
structure Shf (c d : List (List Int)) (p q : Nat) (a b : Int) : Prop where
  len : d.length = c.length
  hp : p < c.length
  hq : q < c.length
  ent : ∀ i x, i < c.length → x < c.length → eC d i x = eC c i x + (if i = p then a else 0) + (if x = q then b else 0)
theorem sN_const0 : ∀ n, sN (fun _ => 0) n = 0
  | 0 => rfl
  | n + 1 => by simp only [sN, sN_const0 n]; rfl
theorem sN_ite {q : Nat} {a : Int} : ∀ n, q < n → sN (fun j => if j = q then a else 0) n = a
  | 0, h => by omega
  | n + 1, h => by
    simp only [sN]
    by_cases e : n = q
    · subst e
      rw [sN_congr (h := fun _ => 0) n (fun i hi => by rw [if_neg (by omega)]), sN_const0, if_pos rfl]
      omega
    · rw [sN_ite n (by omega), if_neg e]
      omega
section
variable {c d : List (List Int)} {p q : Nat} {a b : Int}
theorem Shf.tot (h : Shf c d p q a b) {x : List Int} (hA : Asg x c.length) : totP d x c.length = totP c x c.length + a + b := by
  have e0 := totP_sN (c := d) (a := x) c.length
  have e1 : sN (fun i => eC d i (funA x i)) c.length = sN (fun i => (eC c i (funA x i) + (if i = p then a else 0)) + (if funA x i = q then b else 0)) c.length := sN_congr _ fun i hi => h.ent i _ hi (hA.funA hi).2
  have e2 := sN_asg (g := fun j => if j = q then b else 0) hA
  rw [e0, e1, sN_add, sN_add, sN_ite _ h.hp, e2, sN_ite _ h.hq, totP_sN]
theorem Shf.min (h : Shf c d p q a b) : minT d = minT c + a + b := by
  obtain ⟨x, hx, e⟩ := min_att (c := c)
  obtain ⟨y, hy, e2⟩ := min_att (c := d)
  have h1 := min_le (c := d) (a := x) (by rw [h.len]; exact hx)
  have h2 := min_le (c := c) (a := y) (by rw [← h.len]; exact hy)
  rw [h.len] at h1 e2 hy
  rw [h.tot hx] at h1
  rw [h.tot hy] at e2
  omega
theorem Shf.first (h : Shf c d p q a b) : firstS d d.length 0 = firstS c c.length 0 := by
  have A1 := firstS_Asg (c := c)
  have A2 := firstS_Asg (c := d)
  have t1 := first_tot (c := c)
  have t2 := first_tot (c := d)
  have hm := h.min
  have k1 := first_lex (c := d) (a := firstS c c.length 0) (by rw [h.len]; exact A1) (by rw [h.len, h.tot A1]; omega)
  rw [h.len] at A2 t2
  have k2 := first_lex (c := c) (a := firstS d c.length 0) A2 (by have := h.tot A2; omega)
  rw [h.len] at k1 ⊢
  rcases k1 with k1 | k1
  · exact k1.symm
  · rcases k2 with k2 | k2
    · exact k2
    · exact absurd k2 (lexB_asymm k1)
theorem Shf.tt (h : Shf c d p q a b) {r : Nat} (hr : r < (allL c.length).length) : tt d r = tt c r + a + b := by
  unfold Ytehjmakiljhjdaa.tt
  rw [h.len]
  exact h.tot (all_asg hr)
theorem Shf.rank (h : Shf c d p q a b) {r : Nat} (hr : r < (allL c.length).length) : rank d r = rank c r := by
  rw [rank_bef hr, rank_bef (by rw [h.len]; exact hr), h.len]
  refine ct_congr _ fun i hi => ?_
  unfold bef
  rw [h.tt hi, h.tt hr, Bool.eq_iff_iff]
  simp only [Bool.or_eq_true, Bool.and_eq_true, decide_eq_true_eq]
  omega
theorem Shf.slm (h : Shf c d p q a b) (i j : Nat) : ∀ m, m ≤ (allL c.length).length → slm d i j m = slm c i j m
  | 0, _ => rfl
  | m + 1, hm => by
    have ih := h.slm i j m (by omega)
    have e1 : LL d m = LL c m := by unfold LL; rw [h.len]
    have e2 := h.tt (r := m) (by omega)
    have e3 := h.min
    simp only [Ytehjmakiljhjdaa.slm]
    rw [ih, e1, e2, e3, show Ytehjmakiljhjdaa.tt c m + a + b - (minT c + a + b) = Ytehjmakiljhjdaa.tt c m - minT c by omega]
theorem Shf.slackS (h : Shf c d p q a b) (hC : Cst c) (hD : Cst d) : slackS d = slackS c := by
  unfold Ytehjmakiljhjdaa.slackS
  rw [h.len]
  refine List.map_congr_left fun i hi => ?_
  have hi := List.mem_range.1 hi
  rw [slRow_fl, slRow_fl]
  refine fl_congr fun j hj => ?_
  rw [← slm_eq hC hi hj, ← slm_eq hD (by rw [h.len]; exact hi) (by rw [h.len]; exact hj), h.len]
  exact h.slm i j _ (Nat.le_refl _)
end
/-- The shifted table, as it is after k rounds. -/
def shE (c : List (List Int)) (p q : Nat) (a b : Int) (k i x : Nat) : Int := eC c i x + (if i = p ∧ x < k then a else 0) + (if x = q ∧ i < k then b else 0)
def shR (c : List (List Int)) (p q : Nat) (a b : Int) (k i : Nat) : List Int := fl c.length (shE c p q a b k i)
def shC (c : List (List Int)) (p q : Nat) (a b : Int) : List (List Int) := (List.range c.length).map fun i => shR c p q a b c.length i
theorem shC_shf {c : List (List Int)} {p q : Nat} {a b : Int} (hp : p < c.length) (hq : q < c.length) : Shf c (shC c p q a b) p q a b := by
  refine ⟨by simp [shC], hp, hq, fun i x hi hx => ?_⟩
  have e : (shC c p q a b).getD i [] = shR c p q a b c.length i := by simp [shC, List.getD_eq_getElem?_getD, hi]
  have e2 : eC (shC c p q a b) i x = shE c p q a b c.length i x := by
    unfold eC
    rw [e]
    exact fl_get hx
  rw [e2]
  simp [shE, hi, hx]
theorem shC_cst {c : List (List Int)} {p q : Nat} {a b : Int} (hC : Cst c) (hb : ∀ i j, i < c.length → j < c.length → -400 ≤ eC c i j ∧ eC c i j ≤ 400) (ha1 : -300 ≤ a ∧ a ≤ 300) (hb1 : -300 ≤ b ∧ b ≤ 300) (hp : p < c.length) (hq : q < c.length) : Cst (shC c p q a b) := by
  have hs := shC_shf (a := a) (b := b) hp hq
  refine ⟨by rw [hs.len]; exact hC.n1, by rw [hs.len]; exact hC.n7, fun i hi => ?_, fun i j hi hj => ?_⟩
  · rw [hs.len] at hi ⊢
    have e : (shC c p q a b).getD i [] = shR c p q a b c.length i := by simp [shC, List.getD_eq_getElem?_getD, hi]
    rw [e]
    exact fl_len _ _
  · rw [hs.len] at hi hj
    have h1 := hs.ent i j hi hj
    have h2 := hb i j hi hj
    unfold eC at h1 h2
    rw [h1]
    split <;> split <;> omega
end Go.Proofs.Ytehjmakiljhjdaa
namespace Go.Proofs.Ytehjmakiljhjdaa
open Go Go.RowKit Go.Proofs.Ytehjmakiljhjdaa.VW
attribute [local irreducible] W Ops OrdA VW.Ord OrdX
def shM (c : List (List Int)) (p q : Nat) (a b : Int) (k r x : Nat) : Int := shE c p q a b k r x + (if r = k ∧ x = q then b else 0)
theorem sh1 {c : List (List Int)} {p q k r : Nat} {a b : Int} (hq : q < c.length) : (if r = k then (shR c p q a b k k).set q ((shR c p q a b k k).getD q 0 + b) else shR c p q a b k r) = fl c.length (shM c p q a b k r) := by
  unfold shR
  by_cases e : r = k
  · subst e
    rw [if_pos rfl, fl_set, fl_get hq]
    refine fl_congr fun x hx => ?_
    unfold shM
    by_cases e2 : x = q
    · subst e2; simp
    · simp [e2]
  · rw [if_neg e]
    refine fl_congr fun x hx => ?_
    unfold shM
    simp [e]
theorem sh2 {c : List (List Int)} {p q k r : Nat} {a b : Int} (hk : k < c.length) : (if r = p then (fl c.length (shM c p q a b k p)).set k ((fl c.length (shM c p q a b k p)).getD k 0 + a) else fl c.length (shM c p q a b k r)) = shR c p q a b (k + 1) r := by
  unfold shR
  by_cases e : r = p
  · subst e
    rw [if_pos rfl, fl_set, fl_get hk]
    refine fl_congr fun x hx => ?_
    unfold shM shE
    by_cases e2 : x = k
    · subst e2
      rw [if_pos rfl]
      simp only [Nat.lt_irrefl, and_false, if_false, true_and, Nat.lt_succ_self, if_true]
      have e3 : (x = q ∧ r < x + 1) ↔ (x = q ∧ r < x) ∨ (r = x ∧ x = q) := by omega
      by_cases e4 : x = q <;> by_cases e5 : r < x <;> by_cases e6 : r = x <;> simp [e4, e5, e6] at * <;> (try split) <;> (try split) <;> omega
    · rw [if_neg e2]
      have a1 : (r = r ∧ x < k) = (r = r ∧ x < k + 1) := by apply propext; omega
      simp only [a1]
      by_cases e4 : x = q <;> by_cases e5 : r < k <;> by_cases e6 : r = k <;> simp [e4, e5, e6] <;> (try split) <;> omega
  · rw [if_neg e]
    refine fl_congr fun x hx => ?_
    unfold shM shE
    by_cases e4 : x = q <;> by_cases e5 : r < k <;> by_cases e6 : r = k <;> simp [e, e4, e5, e6] <;> (try split) <;> omega
set_option maxHeartbeats 8000000 in
set_option maxRecDepth 20000 in
theorem shiftedLaw_c {w : World} {mv : Value} {n s0 s1 s2 s3 s4 : Int} {l : List (List Int)} (hm : ArgR w mv l) :
    Calls Try.prog 13 #[.int .i64 n, mv, .agg #[.int .i64 s0, .int .i64 s1, .int .i64 s2, .int .i64 s3, .int .i64 s4]] w (Ret fun r w' => r = .bool true ∧ Below w.heap.size w w') := by
  refine calls_W (vs := [_, _, _]) Try.func13 rfl (by kernel_rfl) rfl ?_
  (repeat (first | with_reducible refine W.seq ?_ | with_reducible refine W.region ?_))
  refine Ops.box rfl rfl rfl rfl (fun w1 b1 hM1 => ?_)
  have hB1 : Blk w1 b1 #[.int .i64 s0, .int .i64 s1, .int .i64 s2, .int .i64 s3, .int .i64 s4] 64 := hM1.at_
  have hb1 := Mk.bel hM1
  (repeat (first | with_reducible refine W.seq ?_ | with_reducible refine Ops.nil ?_ | with_reducible refine W.region ?_ | refine z_p (kk := ?_)))
  refine Ops.callS rfl rfl rfl rfl rfl (mod_c _ _ _ (by omega) (by omega)) ?_
  have hmb := modI_bd n (n := 6) (by omega)
  obtain ⟨n0, hn0⟩ := Int.eq_ofNat_of_zero_le hmb.1
  rw [hn0] at hmb ⊢
  (repeat (first | with_reducible refine W.seq ?_ | with_reducible refine Ops.nil ?_ | with_reducible refine W.region ?_ | refine z_p (kk := ?_) | refine z_a (kk := ?_)))
  rw [show (1 : Int) + ((n0 : Nat) : Int) = ((n0 + 1 : Nat) : Int) by omega]
  refine Ops.call rfl rfl rfl rfl rfl (tame_c ((hm.1).below hb1) (n := n0 + 1) (by omega) (by omega) (by omega)) (fun tv w2 hR => ?_)
  obtain ⟨cvs, hR⟩ := hR
  have hb12 := hR.o.bel
  have hb2 := Below.via hb1 hb12
  have hA2 := hR.argR
  change ArgR w2 tv (tmC l (n0 + 1) 400) at hA2
  have hC := tmC_cst l (n := n0 + 1) (most := 400) (by omega) (by omega) (by omega) (by omega)
  have hcl := tmC_len l (n0 + 1) 400
  have hbd : ∀ i j, i < (tmC l (n0 + 1) 400).length → j < (tmC l (n0 + 1) 400).length → -400 ≤ eC (tmC l (n0 + 1) 400) i j ∧ eC (tmC l (n0 + 1) 400) i j ≤ 400 := fun i j hi hj => by
    rw [hcl] at hi hj
    have := tmC_ent (l := l) (most := 400) hi hj
    unfold eC
    rw [this]
    exact tmV_bd (by omega) _
  generalize tmC l (n0 + 1) 400 = c at *
  clear hR
  have hB2 : Blk w2 b1 #[.int .i64 s0, .int .i64 s1, .int .i64 s2, .int .i64 s3, .int .i64 s4] 64 := hB1.kp (Kp.of_below (S := fun _ => False) hb12) (fun e => e)
  have hcB : costsB c = true := costs_iff.2 hC
  have hn7 := hC.n7
  have hM2 := hA2.1
  obtain ⟨Ac, cc, rfl⟩ := hM2.sl
  have q0 := modI_bd s0 (n := ((n0 + 1 : Nat) : Int)) (by omega)
  have q1 := modI_bd s1 (n := ((n0 + 1 : Nat) : Int)) (by omega)
  have q2 := modI_bd s2 (n := 601) (by omega)
  have q3 := modI_bd s3 (n := 601) (by omega)
  (repeat (first | with_reducible refine W.seq ?_ | with_reducible refine Ops.nil ?_ | refine z_p (kk := ?_)))
  refine W.ordA 99 [(0, 1), (1, 2), (2, 1), (3, 2), (4, 1), (5, 2), (6, 1), (7, 2), (8, 1), (9, 2), (10, 2), (11, 1), (12, 1), (13, 2), (14, 2), (15, 1), (16, 1), (17, 1), (18, 1), (19, 1)] rfl (by kernel_rfl) rfl (by kernel_rfl) (fun _ _ _ h => h) ?_
  refine OrdA.pure rfl rfl rfl rfl (fun _ => EV.idxP rfl rfl rfl rfl rfl (by decide) (by decide)) ?_
  (repeat (first | refine x_p (kk := ?_) | refine x_D (kk := ?_)))
  refine OrdA.call rfl rfl rfl rfl rfl rfl rfl (fun w' hw' => Calls.same hw' (mod_c _ _ _ (by omega) (by omega))) ?_
  refine OrdA.pure rfl rfl rfl rfl (fun _ => EV.idxP rfl rfl rfl rfl rfl (by decide) (by decide)) ?_
  (repeat (first | refine x_p (kk := ?_) | refine x_D (kk := ?_)))
  refine OrdA.call rfl rfl rfl rfl rfl rfl rfl (fun w' hw' => Calls.same hw' (mod_c _ _ _ (by omega) (by omega))) ?_
  refine OrdA.pure rfl rfl rfl rfl (fun _ => EV.idxP rfl rfl rfl rfl rfl (by decide) (by decide)) ?_
  (repeat (first | refine x_D (kk := ?_)))
  refine OrdA.call rfl rfl rfl rfl rfl rfl rfl (fun w' hw' => Calls.same hw' (mod_c _ _ _ (by omega) (by omega))) ?_
  (repeat (first | refine x_a (kk := ?_)))
  refine OrdA.pure rfl rfl rfl rfl (fun _ => EV.idxP rfl rfl rfl rfl rfl (by decide) (by decide)) ?_
  (repeat (first | refine x_D (kk := ?_)))
  refine OrdA.call rfl rfl rfl rfl rfl rfl rfl (fun w' hw' => Calls.same hw' (mod_c _ _ _ (by omega) (by omega))) ?_
  (repeat (first | refine x_p (kk := ?_) | refine x_a (kk := ?_)))
  refine OrdA.nil (fun w3 hb3 => ?_)
  obtain ⟨p, hp⟩ := Int.eq_ofNat_of_zero_le q0.1
  obtain ⟨q, hq⟩ := Int.eq_ofNat_of_zero_le q1.1
  rw [hp] at q0 ⊢
  rw [hq] at q1 ⊢
  obtain ⟨a, ha⟩ : ∃ a, modI s2 601 - 300 = a := ⟨_, rfl⟩
  obtain ⟨b, hb⟩ : ∃ b, modI s3 601 - 300 = b := ⟨_, rfl⟩
  rw [ha, hb]
  have hab : (-300 ≤ a ∧ a ≤ 300) ∧ (-300 ≤ b ∧ b ≤ 300) := by omega
  clear ha hb hp hq
  have hb03 := Below.via hb2 hb3
  have hA3 : ArgR w3 (.slice Ac c.length cc) c := ⟨hM2.below hb3, fun i i0 i1 => by
    obtain ⟨a, k, A', k', e1, e2, e3, e4⟩ := hA2.2 i i0 i1
    exact ⟨a, k, A', k', e1, Sl.below e2 hb3, e3, fun w' hw => e4 w' (Below.via hb3 hw)⟩⟩
  have hM3 := hA3.1
  have hB3 : Blk w3 b1 #[.int .i64 s0, .int .i64 s1, .int .i64 s2, .int .i64 s3, .int .i64 s4] 64 := hB2.kp (Kp.of_below (S := fun _ => False) hb3) (fun e => e)
  clear hA2 hB2 hB1
  (repeat (first | with_reducible refine W.seq ?_ | with_reducible refine W.region ?_ | refine z_p (kk := ?_)))
  refine Ops.call rfl rfl rfl rfl rfl (table_w hA3 hC) (fun dv w4 hR => ?_)
  obtain ⟨dvs, hD4⟩ := hR
  have hb4 := hD4.o.bel
  have hlb3 := hB3.lt
  have hD4' : RW w3 w4 dv dvs c.length (shR c p q a b 0) := hD4.congr (fun i hi => by
    rw [row_fl hC hi]
    exact fl_congr fun x hx => by simp [shE])
  obtain ⟨Ad, cd, rfl⟩ := hD4.o.sh
  have hdl := hD4.len
  rw [hdl] at hD4'
  rw [hdl]
  clear hD4
  (repeat (first | with_reducible refine W.seq ?_ | with_reducible refine Ops.nil ?_ | with_reducible refine W.region ?_ | refine z_p (kk := ?_) | with_reducible refine W.block ?_))
  refine W.loop (fun m ρ w6 => ∃ (i : Nat), m = c.length - i ∧ i ≤ c.length ∧ ρ = [(0, .int .i64 ((n0 + 1 : Nat) : Int)), (5, .pointer (some ⟨b1, 0, none⟩)), (7, .slice Ac c.length cc), (8, .int .i64 (p : Int)), (9, .int .i64 (q : Int)), (10, .int .i64 a), (11, .int .i64 b), (12, .slice Ad c.length cd), (13, .int .i64 i)] ∧ RW w3 w6 (.slice Ad c.length cd) dvs c.length (shR c p q a b i))
    ⟨_, _, ⟨0, rfl, Nat.zero_le _, rfl, hD4'⟩, (by repeat (first | exact trivial | refine And.intro rfl ?_))⟩ ?_
  rintro m ρ w6 ⟨i, rfl, hi, rfl, hD⟩
  have hb6 := hD.o.bel
  (repeat (first | with_reducible refine W.seq ?_ | with_reducible refine Ops.nil ?_ | with_reducible refine W.region ?_ | refine z_p (kk := ?_)))
  (first | refine W.condD rfl (fun hc => ?_) (fun hc => ?_) | refine W.condE rfl (fun hc => ?_) (fun hc => ?_) | refine W.condN rfl (fun hc => ?_) (fun hc => ?_) | refine W.cond rfl (fun hc => ?_) (fun hc => ?_))
  · have hil : i < c.length := by omega
    have hpl : p < c.length := by omega
    have hql : q < c.length := by omega
    (repeat (first | with_reducible refine W.seq ?_ | with_reducible refine W.skip ?_ | with_reducible refine W.block ?_))
    refine W.ordA 99 [(0, 1), (1, 1), (2, 1), (3, 2), (4, 1), (5, 1), (6, 1), (7, 2), (8, 1), (9, 1)] rfl (by kernel_rfl) rfl (by kernel_rfl) (fun _ _ _ h => h) ?_
    (repeat (first | refine x_p (kk := ?_)))
    refine OrdA.rdSn (enc := fun v : Value => v) (z := undef) rfl rfl rfl rfl rfl rfl rfl rfl (fun _ => rfl) rfl rfl rfl rfl rfl rfl hD.o.sl (fun _ h => h) (by omega) (fun _ => ?_)
    (repeat (first | refine x_p (kk := ?_)))
    refine OrdA.rdSn (enc := fun v : Value => v) (z := undef) rfl rfl rfl rfl rfl rfl rfl rfl (fun _ => rfl) rfl rfl rfl rfl rfl rfl hD.o.sl (fun _ h => h) (by omega) (fun _ => ?_)
    (repeat (first | refine x_p (kk := ?_)))
    refine OrdA.nil (fun w7 hb7 => ?_)
    have hD7 := hD.below hb7
    have hr7 := hD7.rows i hil
    (repeat (first | with_reducible refine W.seq ?_ | with_reducible refine W.region ?_ | refine z_p (kk := ?_)))
    refine Ops.rdBn (enc := Value.int .i64) (z := 0) rfl rfl rfl rfl rfl rfl (fun _ => rfl) rfl rfl rfl rfl rfl rfl hr7.sl (Below.refl _ _) (by unfold shR; rw [fl_len]; omega) (fun _ => ?_)
    have hv1 : (shR c p q a b i i).getD q 0 = shE c p q a b i i q := fl_get hql
    have hv1b : -1000 ≤ (shR c p q a b i i).getD q 0 ∧ (shR c p q a b i i).getD q 0 ≤ 1000 := by
      rw [hv1]
      have := hbd i q hil hql
      unfold shE
      split <;> split <;> omega
    (repeat (first | refine z_p (kk := ?_) | refine z_a (kk := ?_)))
    refine Ops.wrO (enc := Value.int .i64) (u := (shR c p q a b i i).getD q 0 + b) rfl rfl rfl rfl rfl rfl rfl rfl rfl rfl rfl rfl (by simp) rfl hr7 (by unfold shR; rw [fl_len]; omega) (fun w8 _ hO8 k8 hs8 => ?_)
    have hD8 := (hD7.wrow hil hO8 k8).congr (T' := fun r => fl c.length (shM c p q a b i r)) (fun r hr => sh1 hql)
    have hr8 := hD8.rows p hpl
    have hv2 : (fl c.length (shM c p q a b i p)).getD i 0 = shM c p q a b i p i := fl_get hil
    have hv2b : -1000 ≤ (fl c.length (shM c p q a b i p)).getD i 0 ∧ (fl c.length (shM c p q a b i p)).getD i 0 ≤ 1000 := by
      rw [hv2]
      have := hbd p i hpl hil
      unfold shM shE
      split <;> split <;> split <;> omega
    (repeat (first | with_reducible refine Ops.nil ?_ | with_reducible refine W.region ?_ | refine z_p (kk := ?_)))
    refine Ops.rdBn (enc := Value.int .i64) (z := 0) rfl rfl rfl rfl rfl rfl (fun _ => rfl) rfl rfl rfl rfl rfl rfl hr8.sl (Below.refl _ _) (by rw [fl_len]; omega) (fun _ => ?_)
    (repeat (first | refine z_p (kk := ?_) | refine z_a (kk := ?_)))
    refine Ops.wrO (enc := Value.int .i64) (u := (fl c.length (shM c p q a b i p)).getD i 0 + a) rfl rfl rfl rfl rfl rfl rfl rfl rfl rfl rfl rfl (by simp) rfl hr8 (by rw [fl_len]; omega) (fun w9 _ hO9 k9 hs9 => ?_)
    have hD9 := (hD8.wrow hpl hO9 k9).congr (T' := shR c p q a b (i + 1)) (fun r hr => sh2 hil)
    (repeat (first | with_reducible refine Ops.nil ?_ | with_reducible refine W.region ?_ | refine z_p (kk := ?_) | refine z_a (kk := ?_) | with_reducible refine W.endb ?_))
    exact W.endl ⟨_, _, ⟨⟨i + 1, rfl, by omega, rfl, hD9⟩, by omega⟩, (by repeat (first | exact trivial | refine And.intro rfl ?_))⟩
  · have hil : i = c.length := by omega
    subst hil
    have hMd := hD.rowsM
    change RowsM w6 _ (shC c p q a b) at hMd
    have hpl : p < c.length := by omega
    have hql : q < c.length := by omega
    have hs := shC_shf (a := a) (b := b) hpl hql
    have hCd := shC_cst hC hbd hab.1 hab.2 hpl hql
    generalize shC c p q a b = d at *
    have hdB : costsB d = true := costs_iff.2 hCd
    have hM6 := hM3.below hb6
    have hB6 : Blk w6 b1 #[.int .i64 s0, .int .i64 s1, .int .i64 s2, .int .i64 s3, .int .i64 s4] 64 := hB3.kp (Kp.of_below (S := fun _ => False) hb6) (fun e => e)
    have hb06 := Below.via hb03 hb6
    clear hD hD4' hbd
    have hpos := allL_pos (n := c.length)
    have hfac := all_fac c.length (by omega)
    have hL := levL_lt (n := c.length) (i := c.length) hn7 hn7
    change (allL c.length).length ≤ 823543 at hL
    (repeat (first | with_reducible refine W.seq ?_ | refine W.exit rfl ?_))
    refine W.ordA 99 [(0, 1), (1, 2), (2, 1), (3, 2), (4, 2), (5, 1)] rfl (by kernel_rfl) rfl (by kernel_rfl) (fun _ _ _ h => h) ?_
    refine OrdA.pure rfl rfl rfl rfl (fun _ => EV.idxP rfl rfl rfl rfl rfl (by decide) (by decide)) ?_
    (repeat (first | refine x_p (kk := ?_) | refine x_D (kk := ?_)))
    refine OrdA.call rfl rfl rfl rfl rfl rfl rfl (fun w' hw' => Calls.same hw' (fac_c (n := n0 + 1) (by omega) (by omega) _)) ?_
    rw [← hcl, ← hfac]
    refine OrdA.call rfl rfl rfl rfl rfl rfl rfl (fun w' hw' => Calls.same hw' (mod_c _ _ _ (by omega) (by omega))) ?_
    (repeat (first | refine x_p (kk := ?_)))
    refine OrdA.nil (fun w7 hb7 => ?_)
    have q4 := modI_bd s4 (n := (((allL c.length).length : Nat) : Int)) (by omega)
    obtain ⟨k0, hk0⟩ := Int.eq_ofNat_of_zero_le q4.1
    rw [hk0] at q4 ⊢
    have hkN : k0 < (allL c.length).length := by omega
    have hM7 := hM6.below hb7
    have hd7 := hMd.below hb7
    (repeat (first | with_reducible refine W.seq ?_ | with_reducible refine W.region ?_ | refine z_p (kk := ?_)))
    refine Ops.call rfl rfl rfl rfl rfl (Item_c hM7) (fun r w8 hR => ?_)
    obtain ⟨hb8, hyes, -⟩ := hR
    obtain ⟨v, r1, rfl, hr1, hrk1, hv8⟩ := hyes ⟨hcB, by omega, by omega⟩
    rw [Int.toNat_natCast] at hrk1
    clear hyes
    have hM8 := hM7.below hb8
    have hd8 := hd7.below hb8
    (repeat (first | with_reducible refine W.seq ?_ | with_reducible refine Ops.nil ?_ | with_reducible refine W.region ?_ | refine z_p (kk := ?_)))
    refine Ops.call rfl rfl rfl rfl rfl (Item_c hd8) (fun r w9 hR => ?_)
    obtain ⟨hb9, hyes, -⟩ := hR
    rw [hs.len] at hyes
    obtain ⟨v2, r2, rfl, hr2, hrk2, hv9⟩ := hyes ⟨hdB, by omega, by omega⟩
    rw [Int.toNat_natCast, hs.rank hr2] at hrk2
    clear hyes
    obtain rfl : r1 = r2 := rank_inj hr1 hr2 (by rw [hrk1, hrk2])
    have hM9 := hM8.below hb9
    have hd9 := hd8.below hb9
    have hv89 := hv8.below hb9
    have hpa := all_asg hr1
    (repeat (first | with_reducible refine W.seq ?_ | with_reducible refine Ops.nil ?_ | with_reducible refine W.region ?_ | refine z_p (kk := ?_)))
    refine Ops.call rfl rfl rfl rfl rfl (Slack_c hM9) (fun r w10 hR => ?_)
    obtain ⟨sv, cvs1, rfl, hS1⟩ := hR.2 hcB
    have hb10 := hS1.o.bel
    have hS10 := hS1.rowsM
    change RowsM w10 sv (slackS c) at hS10
    clear hR hS1
    (repeat (first | with_reducible refine W.seq ?_ | with_reducible refine Ops.nil ?_ | with_reducible refine W.region ?_ | refine z_p (kk := ?_)))
    refine Ops.call rfl rfl rfl rfl rfl (Slack_c (hd9.below hb10)) (fun r w11 hR => ?_)
    obtain ⟨sv2, cvs2, rfl, hS2⟩ := hR.2 hdB
    have hb11 := hS2.o.bel
    have hS11 := hS2.rowsM
    change RowsM w11 sv2 (slackS d) at hS11
    rw [hs.slackS hC hCd] at hS11
    clear hR hS2
    have hb911 := Below.via hb10 hb11
    (repeat (first | with_reducible refine W.seq ?_ | with_reducible refine Ops.nil ?_ | with_reducible refine W.region ?_ | refine z_p (kk := ?_)))
    refine Ops.call rfl rfl rfl rfl rfl (Fixed_c (hM9.below hb911)) (fun r w12 hR => ?_)
    obtain ⟨hb12', -, hR⟩ := hR
    obtain ⟨fv, rfl, hF1⟩ := hR hcB
    have hF12 := hF1.sl (z := (0 : Int))
    clear hF1
    have hb912 := Below.via hb911 hb12'
    (repeat (first | with_reducible refine W.seq ?_ | with_reducible refine Ops.nil ?_ | with_reducible refine W.region ?_ | refine z_p (kk := ?_)))
    refine Ops.call rfl rfl rfl rfl rfl (Fixed_c (hd9.below hb912)) (fun r w13 hR => ?_)
    obtain ⟨hb13, -, hR⟩ := hR
    obtain ⟨fv2, rfl, hF2⟩ := hR hdB
    have hF13 := hF2.sl (z := (0 : Int))
    rw [hs.slackS hC hCd, hs.len] at hF13
    clear hF2
    have hb913 := Below.via hb912 hb13
    (repeat (first | with_reducible refine W.seq ?_ | with_reducible refine Ops.nil ?_ | with_reducible refine W.region ?_ | refine z_p (kk := ?_)))
    refine Ops.call rfl rfl rfl rfl rfl (Best_c (hM9.below hb913)) (fun r w14 hR => ?_)
    obtain ⟨hb14, -, hR⟩ := hR
    obtain ⟨av1, uv1, vv1, uu1, vw1, rfl, hA1, hR⟩ := hR hcB
    have hA14 := hA1.sl (z := (0 : Int))
    clear hA1 hR
    have hb914 := Below.via hb913 hb14
    (repeat (first | with_reducible refine W.seq ?_ | with_reducible refine Ops.nil ?_ | with_reducible refine W.region ?_ | refine z_p (kk := ?_)))
    refine Ops.call rfl rfl rfl rfl rfl (Best_c (hd9.below hb914)) (fun r w15 hR => ?_)
    obtain ⟨hb15, -, hR⟩ := hR
    obtain ⟨av2, uv2, vv2, uu2, vw2, rfl, hA2, hR⟩ := hR hdB
    have hA15 := hA2.sl (z := (0 : Int))
    rw [hs.first] at hA15
    clear hA2 hR
    have hb915 := Below.via hb914 hb15
    have hM15 := hM9.below hb915
    have hd15 := hd9.below hb915
    (repeat (first | with_reducible refine W.seq ?_ | with_reducible refine Ops.nil ?_ | with_reducible refine W.region ?_ | refine z_p (kk := ?_) | refine z_y (kk := ?_)))
    refine Ops.call rfl rfl rfl rfl rfl (ints_c (Sl.below hv89.1 hb915) (Sl.below hv9.1 hb915)) (fun r w16 hR => ?_)
    obtain ⟨rfl, hb16⟩ := hR
    rw [decide_eq_true rfl]
    (repeat (first | refine z_p (kk := ?_) | refine z_y (kk := ?_)))
    refine Ops.call rfl rfl rfl rfl rfl (tables_c (hS10.below (Below.via hb11 (Below.via hb12' (Below.via hb13 (Below.via hb14 (Below.via hb15 hb16)))))) (hS11.below (Below.via hb12' (Below.via hb13 (Below.via hb14 (Below.via hb15 hb16)))))) (fun r w17 hR => ?_)
    obtain ⟨rfl, hb17⟩ := hR
    rw [decide_eq_true rfl]
    (repeat (first | refine z_p (kk := ?_) | refine z_y (kk := ?_)))
    refine Ops.call rfl rfl rfl rfl rfl (ints_c (Sl.below hF12 (Below.via hb13 (Below.via hb14 (Below.via hb15 (Below.via hb16 hb17))))) (Sl.below hF13 (Below.via hb14 (Below.via hb15 (Below.via hb16 hb17))))) (fun r w18 hR => ?_)
    obtain ⟨rfl, hb18⟩ := hR
    rw [decide_eq_true rfl]
    (repeat (first | refine z_p (kk := ?_) | refine z_y (kk := ?_)))
    refine Ops.call rfl rfl rfl rfl rfl (ints_c (Sl.below hA14 (Below.via hb15 (Below.via hb16 (Below.via hb17 hb18)))) (Sl.below hA15 (Below.via hb16 (Below.via hb17 hb18)))) (fun r w19 hR => ?_)
    obtain ⟨rfl, hb19⟩ := hR
    rw [decide_eq_true rfl]
    have hb1519 := Below.via hb16 (Below.via hb17 (Below.via hb18 hb19))
    have hM19 := hM15.below hb1519
    have hd19 := hd15.below hb1519
    have hv19 := hv89.below (Below.via hb915 hb1519)
    have ht := hs.tot hpa
    have htb := tot_bd hC hpa
    (repeat (first | with_reducible refine Ops.nil ?_ | refine z_p (kk := ?_) | refine z_y (kk := ?_)))
    refine W.condF rfl (by first | rfl | assumption | (simp only [bnf] <;> omega) | (simp only [*, bnf]; done) | fail) ?_
    (repeat (first | with_reducible refine W.seq ?_ | with_reducible refine W.region ?_ | refine z_p (kk := ?_) | with_reducible refine W.skip ?_))
    refine Ops.call rfl rfl rfl rfl rfl (Total_c hM19 hv19) (fun r w20 hR => ?_)
    obtain ⟨rfl, hb20⟩ := hR
    rw [if_pos ⟨hcB, hpa⟩]
    (repeat (first | with_reducible refine W.seq ?_ | with_reducible refine Ops.nil ?_ | with_reducible refine W.region ?_ | refine z_p (kk := ?_)))
    refine Ops.call rfl rfl rfl rfl rfl (Total_c (hd19.below hb20) (hv19.below hb20)) (fun r w21 hR => ?_)
    obtain ⟨rfl, hb21⟩ := hR
    rw [hs.len, if_pos ⟨hdB, hpa⟩, ht]
    (repeat (first | with_reducible refine W.seq ?_ | with_reducible refine Ops.nil ?_ | with_reducible refine W.region ?_ | refine z_p (kk := ?_) | refine z_a (kk := ?_) | refine z_y (kk := ?_) | refine z_h (kk := ?_)))
    refine Ops.call rfl rfl rfl rfl rfl (awake_c _) (fun r w22 hR => ?_)
    obtain ⟨rfl, hb22⟩ := hR
    (repeat (first | with_reducible refine Ops.nil ?_ | refine z_p (kk := ?_)))
    exact W.fret rfl ⟨rfl, Below.via hb06 (Below.via hb7 (Below.via hb8 (Below.via hb9 (Below.via hb915 (Below.via hb1519 (Below.via hb20 (Below.via hb21 hb22)))))))⟩
end Go.Proofs.Ytehjmakiljhjdaa
namespace Go.Proofs.Ytehjmakiljhjdaa.O
open Go Go.RowKit Go.Proofs.Ytehjmakiljhjdaa.VW Go.Proofs.Ytehjmakiljhjdaa
attribute [local irreducible] W Ops OrdA VW.Ord OrdX Wi OpsI OrdF
def Ow (w : World) (v : Value) (l : List Int) : Prop := w.ownsRow 0 3 1 v l.length (l.map (Value.int .i64))
set_option maxHeartbeats 4000000 in
theorem ext_in {b1 b2 b3 lp n cap : Nat} {A : Option Addr} {J : List (List Int) → (Nat → Prop) → World → Prop} (hn : n ≤ 7)
    (hJk : ∀ done own W W', J done own W → Kp (fun _ => False) W W' → J done own W')
    (hyes : ∀ done own a A m W, J done own W → (∃ rest, done ++ [a] ++ rest = allL n) → Asg a n → Ow W (.slice A a.length m) a → a.length ≤ m → (∀ i, Value.ownBlock (.slice A a.length m) = some i → ¬ own i ∧ lp < i) → (∀ x, own x → x < W.heap.size) → YieldAt (Fw none) 0 Try.prog lp #[.slice A a.length m] W (fun e W' => e = .returned (.bool true) ∧ Vd J (done ++ [a]) own W W')) :
    ∀ (k : Nat) (l : List Int) (done : List (List Int)) (own : Nat → Prop) (w : World) (Al : Option Addr) (m : Nat), l.length + k = n → Beg l n l.length → (∃ rest, done ++ visS n k l ++ rest = allL n) → J done own w → Pt b1 b2 b3 lp n cap A own w → lp < w.heap.size → Ow w (.slice Al l.length m) l → l.length ≤ m → (∀ i, Value.ownBlock (.slice Al l.length m) = some i → ¬ own i ∧ lp < i) →
    CallsIn (Fw none) 0 Try.prog 91 #[.slice Al l.length m, .pointer (some ⟨b1, 0, none⟩), .pointer (some ⟨b2, 0, none⟩), .pointer (some ⟨b3, 0, none⟩)] w (Ret fun r w' => r = .bool true ∧ Vd J (done ++ visS n k l) own w w') := by
  intro k
  induction k with
  | zero =>
    intro l done own w Al m hl hb hpre hj hp hlp hsO hm ho
    have hs : SlI w (.slice Al l.length m) l := own_sl hsO
    have hl' : (l.length : Int) = n := by omega
    have hA : Asg l n := asg_beg.2 (by rw [show l.length = n by omega] at hb; exact hb)
    have B1 := hp.h1
    have B2 := hp.h2
    have hbw : Below w.heap.size w w := Below.refl _ _
    refine callsIn_Wi (vs := [_, _, _, _]) Try.func91 rfl rfl ?_
    refine Wi.seq (Wi.regionN rfl rfl ?_)
    (repeat (first | with_reducible refine Ops.nil ?_ | refine z_p (kk := ?_)))
    refine W.endl ?_
    refine Wi.seq (Wi.seq (Wi.regionN rfl rfl ?_))
    (repeat (first | with_reducible refine Ops.nil ?_ | refine z_p (kk := ?_) | refine z_l (kk := ?_) | refine z_d (kk := ?_)))
    refine W.endl ?_
    refine Wi.cond rfl (fun hc => ?_) (fun hc => absurd hl' (by simpa using hc))
    refine Wi.seq (Wi.region ?_)
    refine OpsI.split 2 rfl rfl rfl rfl ?_
    (repeat (first | refine z_p (kk := ?_) | refine z_d (kk := ?_)))
    refine Ops.nil (W.endl ?_)
    obtain ⟨fn, tmps, assign, body, hr, hR⟩ := hyes done own l Al m w hj (by obtain ⟨rest, e⟩ := hpre; exact ⟨rest, by simpa [visS] using e⟩) hA hsO hm ho hp.lt
    refine OpsI.yield1 rfl rfl rfl rfl rfl rfl ⟨fn, tmps, assign, body, hr, hR.mono fun e W' he => ⟨he.1, ?_⟩⟩
    refine OpsI.split 1 rfl rfl rfl rfl ?_
    (repeat (first | refine z_p (kk := ?_)))
    refine Ops.nil (W.endl (OpsI.nil ?_))
    refine Wi.ret ?_
    exact ⟨.inr rfl, _, rfl, rfl, he.2⟩
  | succ k ih =>
    intro l done own w Al m hl hb hpre hj hp hlp hsO hm ho
    have hs : SlI w (.slice Al l.length m) l := own_sl hsO
    have hl' : ¬ (l.length : Int) = n := by omega
    have B1 := hp.h1
    have hbw : Below w.heap.size w w := Below.refl _ _
    refine callsIn_Wi (vs := [_, _, _, _]) Try.func91 rfl rfl ?_
    refine Wi.seq (Wi.regionN rfl rfl ?_)
    (repeat (first | with_reducible refine Ops.nil ?_ | refine z_p (kk := ?_)))
    refine W.endl ?_
    refine Wi.seq (Wi.seq (Wi.regionN rfl rfl ?_))
    (repeat (first | with_reducible refine Ops.nil ?_ | refine z_p (kk := ?_) | refine z_l (kk := ?_) | refine z_d (kk := ?_)))
    refine W.endl ?_
    refine Wi.cond rfl (fun hc => absurd (by simpa using hc) hl') (fun hc => Wi.skip ?_)
    refine Wi.seq (Wi.seq (Wi.regionN rfl rfl ?_))
    (repeat (first | with_reducible refine Ops.nil ?_ | refine z_p (kk := ?_) | refine z_l (kk := ?_) | refine z_d (kk := ?_)))
    refine W.endl ?_
    refine Wi.sub (ρ' := [(0, .slice Al l.length m), (3, .pointer (some ⟨b3, 0, none⟩)), (16, .int .i64 n), (17, .int .i64 0)]) (by repeat (first | exact trivial | refine And.intro rfl ?_)) ?_
    clear B1 hbw hc
    refine Wi.block (Wi.loop (m := n) (fun mm ρ w1 => ∃ (j : Nat), mm = n - j ∧ j ≤ n ∧ ρ = [(0, .slice Al l.length m), (3, .pointer (some ⟨b3, 0, none⟩)), (16, .int .i64 n), (17, .int .i64 j)] ∧ Vd J (done ++ visJ (visS n k) l j) own w w1) ⟨0, rfl, Nat.zero_le _, rfl, ⟨own, by simpa [visJ] using hj, Kp.of_below (Below.refl _ _), fun x h => h, fun x h => .inl h, hp.lt⟩⟩ ?_)
    rintro mm ρ w1 ⟨j, rfl, hj2, rfl, hV⟩
    refine Wi.seq (Wi.regionN rfl rfl ?_)
    (repeat (first | with_reducible refine Ops.nil ?_ | refine z_p (kk := ?_)))
    refine W.endl ?_
    refine Wi.seq (Wi.cond rfl (fun hc => ?_) (fun hc => ?_))
    · have hjl : j < n := by simpa using hc
      refine Wi.skip ?_
      obtain ⟨own1, hJ1, hk1, hs1, hg1, hlt1⟩ := hV
      have hp1 := hp.kp hk1 hg1 hlt1
      have hno1 : ∀ i, Value.ownBlock (.slice Al l.length m) = some i → 0 < l.length → ¬ own1 i := fun i hi hpos e => by
        rcases hg1 i e with e2 | e2
        · exact (ho i hi).1 e2
        · have := Sl.lt hs hpos hi; omega
      have hsl1 : SlI w1 (.slice Al l.length m) l := sl_kp' hs hk1 (fun hpos i hi e => hno1 i hi hpos e)
      refine Wi.seq (Wi.block (Wi.seq (Wi.regionN rfl rfl ?_)))
      (repeat (first | with_reducible refine Ops.nil ?_ | refine z_p (kk := ?_)))
      refine W.endl ?_
      have hd1 : ∀ (jj : Nat), done ++ visJ (visS n k) l (jj + 1) = done ++ visJ (visS n k) l jj ++ (if (jj : Int) ∈ l then [] else visS n k (l ++ [(jj : Int)])) := fun jj => by rw [visJ, List.append_assoc]
      refine Wi.seq (Wi.ordF (fun w' => Blk w' b3 #[extV b1 b2 b3] 88) [0, 1, 2, 3, 4, 5, 6, 7, 8, 9, 10, 11, 12, 13, 14, 15, 16, 17] rfl (by kernel_rfl) (by kernel_rfl) (by kernel_rfl) rfl (fun wr kr _ => ⟨hp1.h3.kp kr (fun e => e), ?_⟩))
      have B3r := hp1.h3.kp kr (fun e => e)
      have hslr := hsl1.kp kr (fun _ _ e => e)
      have hJr := hJk _ _ _ _ hJ1 kr
      have hpr : Pt b1 b2 b3 lp n cap A own1 wr := ⟨hp1.h1.kp kr (fun e => e), hp1.h2.kp kr (fun e => e), B3r, hp1.o1, hp1.o2, hp1.o3, fun x hx => by have := hp1.lt x hx; have := kr.size; omega⟩
      have hkr : Kp own1 w wr := (hk1.trans kr).mono (fun i _ e => by rcases e with e | e; exact e; exact e.elim)
      have hszr := kr.size
      have hsz1 := hk1.size
      have hlpr : lp < wr.heap.size := by omega
      (repeat (first | refine f_p (kk := ?_)))
      refine OrdF.one 2 (by kernel_rfl) rfl (Ops.callS rfl rfl rfl rfl rfl (contains_c hslr) (Ops.nil (W.endl ⟨B3r, ?_⟩)))
      by_cases hmm : (j : Int) ∈ l
      · rw [decide_eq_true hmm]
        (repeat (first | refine f_p (kk := ?_) | refine f_n (kk := ?_)))
        refine OrdF.done (by kernel_rfl) (W.endl ?_)
        refine Wi.cond rfl (fun hc => by cases hc) (fun hc => Wi.skip ?_)
        refine Wi.regionN rfl rfl ?_
        (repeat (first | with_reducible refine Ops.nil ?_ | refine z_p (kk := ?_) | refine z_a (kk := ?_)))
        refine W.endl ⟨_, _, ⟨⟨j + 1, rfl, by omega, rfl, ?_⟩, by omega⟩, (by repeat (first | exact trivial | refine And.intro rfl ?_))⟩
        rw [hd1, if_pos hmm, List.append_nil]
        exact ⟨own1, hJr, hkr, hs1, hg1, hpr.lt⟩
      · rw [decide_eq_false hmm]
        refine f_p (i := 3) (kk := ?_)
        refine f_p (i := 4) (kk := ?_)
        refine OrdF.take (by kernel_rfl) rfl rfl rfl rfl (fun w hF => EV.ld rfl rfl rfl (Blk.cell hF rfl)) ?_
        refine f_p (i := 6) (kk := ?_)
        refine f_p (i := 7) (kk := ?_)
        refine f_l (i := 8) (kk := ?_)
        refine f_p (i := 9) (kk := ?_)
        refine f_l (i := 10) (kk := ?_)
        refine OrdF.take (by kernel_rfl) rfl rfl rfl rfl (fun w _ => EV.sl3 rfl rfl rfl rfl rfl rfl hm) ?_
        refine f_p (i := 12) (kk := ?_)
        refine OrdF.one 13 (by kernel_rfl) rfl (Ops.yesB rfl rfl rfl rfl rfl (Ops.bs1 rfl rfl rfl rfl rfl rfl rfl rfl rfl (fun ws rb hMs => Ops.nil (W.endl ⟨B3r.kp hMs.kp (fun e => e), ?_⟩))))
        have hsls := hslr.kp hMs.kp (fun _ _ e => e)
        have hsl0 : SlI ws (.slice Al l.length l.length) l := by
          obtain ⟨q1, A', c', q2, q3⟩ := hsls
          cases q2
          exact ⟨q1, _, _, rfl, q3⟩
        have hnil : Al = none → l.length = 0 := fun e => by
          obtain ⟨q1, A', c', q2, q3⟩ := hsls
          cases q2
          rcases Nat.eq_zero_or_pos l.length with h | h
          · exact h
          · obtain ⟨a, ha, _⟩ := q3 h
            rw [e] at ha; cases ha
        refine OrdF.one 14 (by kernel_rfl) rfl (Ops.yesB rfl rfl rfl rfl rfl (Ops.appG (enc := Value.int .i64) (z0 := 0) (u := (j : Int)) rfl rfl rfl rfl rfl rfl rfl rfl rfl rfl hnil hsl0 (own_one hMs) (by omega) (fun lv wt hOt => Ops.nil (W.endl ⟨(B3r.kp hMs.kp (fun e => e)).kp (Kp.of_below (S := fun _ => False) hOt.bel) (fun e => e), ?_⟩))))
        have hkst : Kp (fun _ => False) wr wt := (hMs.kp.trans (Kp.of_below (S := fun _ => False) hOt.bel)).mono (fun _ _ e => by rcases e with e | e <;> exact e)
        have hsst := hkst.size
        have hszs := hMs.kp.size
        have hJt := hJk _ _ _ _ hJr hkst
        have hpt : Pt b1 b2 b3 lp n cap A own1 wt := ⟨hpr.h1.kp hkst (fun e => e), hpr.h2.kp hkst (fun e => e), hpr.h3.kp hkst (fun e => e), hpr.o1, hpr.o2, hpr.o3, fun x hx => by have := hpr.lt x hx; omega⟩
        have hkt : Kp own1 w wt := (hkr.trans hkst).mono (fun i _ e => by rcases e with e | e; exact e; exact e.elim)
        have hlen : (l ++ [(j : Int)]).length = l.length + 1 := by simp
        have hcap := hOt.own
        have hge := hOt.ge
        have hsl2 := hOt.sl (z := (0 : Int))
        obtain ⟨At, mt, rfl⟩ := hOt.sh
        have hpre2 : ∃ rest, done ++ visJ (visS n k) l j ++ visS n k (l ++ [(j : Int)]) ++ rest = allL n := by
          obtain ⟨rest, e⟩ := hpre
          obtain ⟨t, ht⟩ := visJ_split (f := visS n k) (l := l) (j := j + 1) n (by omega)
          have e2 : visS n (k + 1) l = visJ (visS n k) l n := rfl
          rw [e2, ht, visJ, if_neg hmm] at e
          exact ⟨t ++ rest, by rw [← e]; simp [List.append_assoc]⟩
        have hrec := callsIn_wide.1 (ih (l ++ [(j : Int)]) _ own1 wt At mt (by rw [hlen]; omega) (by rw [hlen]; exact beg_snoc hb hjl hmm) hpre2 hJt hpt (by omega) hcap (own_cap hcap) (fun i hi => ⟨fun e => by have := hpr.lt i e; have := hge i hi; omega, by have := hge i hi; omega⟩))
        refine OrdF.one 15 (by kernel_rfl) rfl (Ops.yesB rfl rfl rfl rfl rfl (Ops.call rfl rfl rfl rfl rfl hrec (fun rr wy hR => Ops.nil (W.endl ⟨?_, ?_⟩))))
        · obtain ⟨-, own2, q1, q2, q3, q4, q5⟩ := hR
          exact (hpt.kp q2 q4 q5).h3
        obtain ⟨rfl, hVd⟩ := hR
        refine f_p (i := 16) (kk := ?_)
        refine f_p (i := 17) (kk := ?_)
        refine OrdF.done (by kernel_rfl) (W.endl ?_)
        refine Wi.cond rfl (fun hc => by cases hc) (fun hc => Wi.skip ?_)
        refine Wi.regionN rfl rfl ?_
        (repeat (first | with_reducible refine Ops.nil ?_ | refine z_p (kk := ?_) | refine z_a (kk := ?_)))
        refine W.endl ⟨_, _, ⟨⟨j + 1, rfl, by omega, rfl, ?_⟩, by omega⟩, (by repeat (first | exact trivial | refine And.intro rfl ?_))⟩
        rw [hd1, if_neg hmm]
        exact Vd.via hkt hs1 hg1 hVd
    · have : j = n := by simp at hc; omega
      subst this
      refine Wi.exit ?_
      show ite _ _ _
      rw [if_pos rfl]
      refine Wi.seq (Wi.regionN rfl rfl ?_)
      (repeat (first | with_reducible refine Ops.nil ?_ | refine z_p (kk := ?_)))
      refine W.endl ?_
      refine Wi.ret ?_
      exact ⟨.inr rfl, _, rfl, rfl, hV⟩
end Go.Proofs.Ytehjmakiljhjdaa.O
namespace Go.Proofs.Ytehjmakiljhjdaa.O
open Go Go.RowKit Go.Proofs.Ytehjmakiljhjdaa.VW Go.Proofs.Ytehjmakiljhjdaa
attribute [local irreducible] W Ops OrdA VW.Ord OrdX Wi OpsI OrdF
set_option maxHeartbeats 2000000 in
theorem all1_in {b1 lp n cap : Nat} {A : Option Addr} {J : List (List Int) → (Nat → Prop) → World → Prop} (hn : n ≤ 7)
    (hJk : ∀ done own W W', J done own W → Kp (fun _ => False) W W' → J done own W')
    (hyes : ∀ done own a A m W, J done own W → (∃ rest, done ++ [a] ++ rest = allL n) → Asg a n → Ow W (.slice A a.length m) a → a.length ≤ m → (∀ i, Value.ownBlock (.slice A a.length m) = some i → ¬ own i ∧ lp < i) → (∀ x, own x → x < W.heap.size) → YieldAt (Fw none) 0 Try.prog lp #[.slice A a.length m] W (fun e W' => e = .returned (.bool true) ∧ Vd J (done ++ [a]) own W W'))
    {w : World} {own : Nat → Prop} (hB : Blk w b1 #[.slice A n cap] 71) (hob : ¬ own b1) (hol : ∀ x, own x → x < w.heap.size) (hlp : lp < w.heap.size) (h0 : J [] own w) :
    CallsIn (Fw none) 0 Try.prog 90 #[.func (.yield lp) #[] #[], .pointer (some ⟨b1, 0, none⟩)] w (Ret fun v w' => Vd J (allL n) own w w') := by
  refine callsIn_Wi (vs := [_, _]) Try.func90 rfl rfl ?_
  refine Wi.seq (Wi.regionN rfl rfl ?_)
  skip
  refine Ops.box rfl rfl rfl rfl (fun w1 b2 hM2 => ?_)
  refine Ops.nil (W.endl ?_)
  refine Wi.seq (Wi.regionN rfl rfl ?_)
  refine Ops.alloc rfl rfl rfl rfl (fun w2 b3 hM3 => ?_)
  refine Ops.nil (W.endl ?_)
  refine Wi.seq (Wi.regionN rfl rfl ?_)
  (repeat (first | refine z_p (kk := ?_)))
  refine Ops.st rfl rfl rfl rfl rfl rfl rfl hM3.at_ (by exact Nat.zero_lt_one) (fun w3 hu3 => ?_)
  refine Ops.nil (W.endl ?_)
  have e2 := hM2.r_eq
  have e3 := hM3.r_eq
  have s2 := hM2.size
  have s3 := hM3.size
  have su := hu3.size
  have hb1lt := hB.lt
  have B3 : Blk w3 b3 #[extV b1 b2 b3] 88 := hu3.blk
  have B2 : Blk w3 b2 #[.func (.yield lp) #[] #[]] 88 := (Blk.kp hM2.at_ hM3.kp (fun e => e)).kp hu3.kp (fun e => by omega)
  have B1 : Blk w3 b1 #[.slice A n cap] 71 := ((hB.kp hM2.kp (fun e => e)).kp hM3.kp (fun e => e)).kp hu3.kp (fun e => by omega)
  have hbel : Below w.heap.size w w3 := Below.put (Below.put (Below.put (Below.refl _ _) hM2.kp (fun _ e => e.elim)) hM3.kp (fun _ e => e.elim)) hu3.kp (fun i e => by omega)
  have hb33 : Below w3.heap.size w3 w3 := Below.refl _ _
  have hk : Kp (fun _ => False) w w3 := Kp.of_below hbel
  have hp : Pt b1 b2 b3 lp n cap A own w3 := ⟨B1, B2, B3, hob, fun e => by have := hol _ e; omega, fun e => by have := hol _ e; omega, fun x hx => by have := hol x hx; omega⟩
  have hbeg : Beg [] n ([] : List Int).length := ⟨rfl, fun x hx => by simp at hx, by simp⟩
  have hrec := callsIn_wide.1 (ext_in hn hJk hyes n [] [] own w3 none 0 (by simp) hbeg ⟨[], by rw [vis_all]; simp⟩ (hJk _ _ _ _ h0 hk) hp (by omega) (World.ownsRow_nil _ 0 3 1) (Nat.le_refl _) (fun i hi => by simp [Value.ownBlock] at hi))
  refine Wi.regionN rfl rfl ?_
  (repeat (first | refine z_d (kk := ?_)))
  refine Ops.call rfl rfl rfl rfl rfl hrec (fun rr wy hR => ?_)
  refine Ops.nil (W.endl ?_)
  obtain ⟨-, hVd⟩ := hR
  rw [List.nil_append, vis_all] at hVd
  refine ⟨.inl rfl, _, rfl, ?_⟩
  obtain ⟨own', q1, q2, q3, q4, q5⟩ := hVd
  exact ⟨own', q1, (hk.trans q2).mono (fun i _ e => by rcases e with e | e; exact e.elim; exact e), q3, fun x hx => (q4 x hx).imp id (fun e => by omega), q5⟩
/-- for l := range c.all(): 'I done own' before a visit; own: what a round may write. -/
theorem allsO {wE : World} {b1 n cap id p nT : Nat} {gx : Operand} {A : Option Addr} {assign body c2 : Code} {Φ : Post} {ds : List Deferred} {ρ : E} {I : List (List Int) → (Nat → Prop) → World → Prop} {own0 : Nat → Prop} (hn : n ≤ 7)
    (hg : ev ρ gx = some (.func (.func 90) #[] #[.pointer (some ⟨b1, 0, none⟩)])) (hi2 : inB nT c2 = true) (hp : Nat.blt p nT = true)
    (hB : Blk wE b1 #[.slice A n cap] 71) (hob : ¬ own0 b1) (hol : ∀ x, own0 x → x < wE.heap.size)
    (hIk : ∀ done own W W', I done own W → Kp (fun k => k = wE.heap.size ∨ k = wE.heap.size + 1) W W' → I done own W') (h0 : I [] own0 wE)
    (hround : ∀ L done own a A m W, L = wE.heap.size + 1 → I done own W → (∃ rest, done ++ [a] ++ rest = allL n) → Asg a n → Ow W (.slice A a.length m) a → a.length ≤ m → (∀ i, Value.ownBlock (.slice A a.length m) = some i → ¬ own i ∧ wE.heap.size + 1 < i) → wE.heap.size + 2 ≤ W.heap.size →
      Wi (some L) Try.prog nT [] assign (fun e ρ1 w1 => e = .normal ∧ w1 = W ∧ ∀ W', I done own W' → Ow W' (.slice A a.length m) a → W'.heap.size = W.heap.size → Wi (some L) Try.prog nT [] body (fun e ρ2 w2 => e = .normal ∧ ∃ own', I (done ++ [a]) own' w2 ∧ Kp own' W' w2 ∧ (∀ x, own x → own' x) ∧ (∀ x, own' x → own x ∨ W'.heap.size ≤ x) ∧ ∀ x, own' x → x < w2.heap.size) ρ1 W') ((p, .slice A a.length m) :: ρ) W)
    (hdone : ∀ D W3 own, D = wE.heap.size → I (allL n) own W3 → W3.heap[D]? = some (.deferred (some [])) → W Try.prog nT ({ target := .collected D, args := #[] } :: ds) [.code c2] (fun e ρ w => e = .ret ∧ w.heap[D]? = some (.deferred (some [])) ∧ Φ .ret ρ (w.putObj D (.deferred none))) ρ W3) :
    JW Try.prog nT ds Φ c2 (.block id (.rangeFunc gx #[p] assign body)) ρ wE := by
  refine VW.JW.range (lb := [.pointer (some ⟨b1, 0, none⟩)]) (gf := 90) hg (Fns.call (P := Try.prog) (by exact rfl)) hi2 (fun fn tmps hrep D W1 hD hW1 => ?_)
  subst hD hW1
  have ka := (mk_alloc wE (.deferred (some []))).kp
  have kb := (mk_alloc (wE.alloc (.deferred (some []))) (.loop (loopRec fn tmps #[p] assign body wE.heap.size))).kp
  have h1 := hIk _ _ _ _ h0 ((ka.trans kb).mono fun k _ e => by rcases e with e | e <;> exact e.elim)
  have hsz : (wE.alloc (.deferred (some []))).heap.size = wE.heap.size + 1 := (mk_alloc wE _).size
  have hsz2 : ((wE.alloc (.deferred (some []))).alloc (.loop (loopRec fn tmps #[p] assign body wE.heap.size))).heap.size = wE.heap.size + 2 := by rw [(mk_alloc (wE.alloc (.deferred (some []))) _).size, hsz]
  have hD1 : ((wE.alloc (.deferred (some []))).alloc (.loop (loopRec fn tmps #[p] assign body wE.heap.size))).heap[wE.heap.size]? = some (.deferred (some [])) := at_kp (mk_alloc wE (.deferred (some []))).at_ kb (fun e => e)
  have hL1 : ((wE.alloc (.deferred (some []))).alloc (.loop (loopRec fn tmps #[p] assign body wE.heap.size))).heap[wE.heap.size + 1]? = some (.loop (loopRec fn tmps #[p] assign body wE.heap.size)) := by
    have := (mk_alloc (wE.alloc (.deferred (some []))) (.loop (loopRec fn tmps #[p] assign body wE.heap.size))).at_
    rw [hsz] at this
    exact this
  have hB1 : Blk ((wE.alloc (.deferred (some []))).alloc (.loop (loopRec fn tmps #[p] assign body wE.heap.size))) b1 #[.slice A n cap] 71 := (hB.kp ka (fun e => e)).kp kb (fun e => e)
  refine CallsIn.mono (all1_in (lp := wE.heap.size + 1) (own := fun x => own0 x ∨ x = wE.heap.size + 1) hn (J := fun done own W => ∃ own1, (∀ x, own x ↔ own1 x ∨ x = wE.heap.size + 1) ∧ (∀ x, own1 x → x ≠ wE.heap.size ∧ x ≠ wE.heap.size + 1) ∧ I done own1 W ∧ W.heap[wE.heap.size]? = some (.deferred (some [])) ∧ W.heap[wE.heap.size + 1]? = some (.loop (loopRec fn tmps #[p] assign body wE.heap.size)))
    (fun done own W W' h k => ?_) (fun done own a Aa m W h hpre hA hs hm ho hlt => ?_) hB1 (fun e => by have := hB.lt; rcases e with e | e; exact hob e; omega) (fun x hx => by rw [hsz2]; rcases hx with e | e; have := hol x e; omega; omega) (by rw [hsz2]; omega) ⟨own0, fun x => Iff.rfl, fun x hx => by have := hol x hx; omega, h1, hD1, hL1⟩) ?_
  · obtain ⟨own1, q1, q2, q3, q4, q5⟩ := h
    exact ⟨own1, q1, q2, hIk _ _ _ _ q3 (k.mono fun _ _ e => e.elim), at_kp q4 k (fun e => e), at_kp q5 k (fun e => e)⟩
  · obtain ⟨own1, q1, q2, q3, q4, q5⟩ := h
    have hLlt := (Array.getElem?_eq_some_iff.1 q5).1
    refine round_in q5 hrep hp ((hround _ done own1 a Aa m W rfl q3 hpre hA hs hm (fun i hi => ⟨fun e => (ho i hi).1 ((q1 i).2 (.inl e)), (ho i hi).2⟩) (by omega)).mono ?_)
    rintro e ρ1 w1 ⟨rfl, rfl, hb⟩
    refine ⟨rfl, _, q5, rfl, ?_⟩
    have hk := kp_putObj (w := w1) (r := wE.heap.size + 1) (.loop { (loopRec fn tmps #[p] assign body wE.heap.size) with state := .busy })
    have hks : (w1.putObj (wE.heap.size + 1) (.loop { (loopRec fn tmps #[p] assign body wE.heap.size) with state := .busy })).heap.size = w1.heap.size := by simp [World.putObj]
    have hsk : Ow (w1.putObj (wE.heap.size + 1) (.loop { (loopRec fn tmps #[p] assign body wE.heap.size) with state := .busy })) (.slice Aa a.length m) a := own_kp hs hk (fun i hi e => by have := (ho i hi).2; omega)
    refine (hb _ (hIk _ _ _ _ q3 (hk.mono fun k _ e => .inr e)) hsk hks).mono ?_
    rintro e ρ2 w2 ⟨rfl, own2, r1, r2, r3, r4, r5⟩
    have hne : ∀ x, own2 x → x ≠ wE.heap.size ∧ x ≠ wE.heap.size + 1 := fun x hx => by
      rcases r4 x hx with e | e
      · exact q2 x e
      · rw [hks] at e; omega
    have hl2 : w2.heap[wE.heap.size + 1]? = some (.loop { (loopRec fn tmps #[p] assign body wE.heap.size) with state := .busy }) := at_kp (World.putObj_heap_same hLlt) r2 (fun e => (hne _ e).2 rfl)
    have hd2 : w2.heap[wE.heap.size]? = some (.deferred (some [])) := at_kp (at_kp q4 hk (fun e => by omega)) r2 (fun e => (hne _ e).1 rfl)
    have hlt2 := (Array.getElem?_eq_some_iff.1 hl2).1
    have hk3 := kp_putObj (w := w2) (r := wE.heap.size + 1) (.loop (loopRec fn tmps #[p] assign body wE.heap.size))
    refine ⟨rfl, _, hl2, rfl, fun x => own2 x ∨ x = wE.heap.size + 1, ⟨own2, fun x => Iff.rfl, hne, hIk _ _ _ _ r1 (hk3.mono fun k _ e => .inr e), at_kp hd2 hk3 (fun e => by omega), World.putObj_heap_same hlt2⟩, ?_, fun x hx => ?_, fun x hx => ?_, fun x hx => ?_⟩
    · exact ((hk.trans r2).trans hk3).mono (fun i _ e => by rcases e with (e | e) | e; exact .inr e; exact .inl e; exact .inr e)
    · rcases (q1 x).1 hx with e | e
      · exact .inl (r3 x e)
      · exact .inr e
    · rcases hx with e | e
      · rcases r4 x e with e2 | e2
        · exact .inl ((q1 x).2 (.inl e2))
        · rw [hks] at e2; exact .inr e2
      · exact .inl ((q1 x).2 (.inr e))
    · have hk3s : (w2.putObj (wE.heap.size + 1) (.loop (loopRec fn tmps #[p] assign body wE.heap.size))).heap.size = w2.heap.size := by simp [World.putObj]
      show x < (w2.putObj _ _).heap.size
      rw [hk3s]
      rcases hx with e | e
      · exact r5 x e
      · omega
  · rintro e W2 ⟨v, rfl, own', ⟨own1, q1, q2, q3, q4, q5⟩, k1, k2, k3, k4⟩
    refine ⟨v, rfl, _, q5, rfl, rfl, q4, ?_⟩
    rintro W3 rfl
    have hk3 := kp_putObj (w := W2) (r := wE.heap.size + 1) (.loop { (loopRec fn tmps #[p] assign body wE.heap.size) with state := .exhausted })
    exact hdone _ _ own1 rfl (hIk _ _ _ _ q3 (hk3.mono fun k _ e => .inr e)) (at_kp q4 hk3 (fun e => by omega))
end Go.Proofs.Ytehjmakiljhjdaa.O
namespace Go.Proofs.Ytehjmakiljhjdaa.O
open Go Go.RowKit Go.Proofs.Ytehjmakiljhjdaa.VW Go.Proofs.Ytehjmakiljhjdaa
attribute [local irreducible] W Ops OrdA VW.Ord OrdX Wi OpsI OrdF
/-- A slice of slices of the call's own, whose elements lie in other blocks of its own. -/
structure RSO (w0 w : World) (ov : Value) (vs : List Value) (c : List (List Int)) : Prop where
  o : OI 23 (fun v : Value => v) w0 w ov vs
  len : vs.length = c.length
  rows : ∀ j, j < c.length → Ow w (vs.getD j undef) (c.getD j [])
  ge : ∀ j, j < c.length → ∀ i, (vs.getD j undef).ownBlock = some i → w0.heap.size ≤ i ∧ ov.ownBlock ≠ some i
  cap : ∀ j, j < c.length → ∃ A m, vs.getD j undef = .slice A (c.getD j []).length m ∧ (c.getD j []).length ≤ m
theorem RSO.kp {w0 w w' : World} {ov : Value} {vs : List Value} {c : List (List Int)} {S : Nat → Prop} (h : RSO w0 w ov vs c) (k : Kp S w w') (hs : ∀ i, S i → w0.heap.size ≤ i ∧ ov.ownBlock ≠ some i ∧ ∀ j, j < c.length → (vs.getD j undef).ownBlock ≠ some i) : RSO w0 w' ov vs c :=
  ⟨h.o.kp k (fun i hi => ⟨(hs i hi).1, (hs i hi).2.1⟩), h.len, fun j hj => own_kp (h.rows j hj) k (fun i hi e => (hs i e).2.2 j hj hi), h.ge, h.cap⟩
set_option maxHeartbeats 2000000 in
theorem AppendSeq_c {w : World} {b1 n cap : Nat} {A : Option Addr} (hn : n ≤ 7) (hn0 : 0 < n) (hB : Blk w b1 #[.slice A n cap] 71) :
    Calls Try.prog 95 #[.slice none 0 0, .func (.func 90) #[] #[.pointer (some ⟨b1, 0, none⟩)]] w (Ret fun r w' => ∃ vs, RSO w w' r vs (allL n)) := by
  have hL := levL_lt (n := n) (i := n) hn hn
  change (allL n).length ≤ 823543 at hL
  refine calls_W (vs := [_, _]) Try.func95 rfl (by kernel_rfl) rfl ?_
  (repeat (first | with_reducible refine W.seq ?_ | with_reducible refine W.region ?_))
  refine Ops.box rfl rfl rfl rfl (fun wE b2 hM2 => ?_)
  have e2 := hM2.r_eq
  have s2 := hM2.size
  have hb : Below w.heap.size w wE := Mk.bel hM2
  have B2 : Blk wE b2 #[.slice none 0 0] 22 := hM2.at_
  have B1 : Blk wE b1 #[.slice A n cap] 71 := hB.kp (Kp.of_below (S := fun _ => False) hb) (fun e => e)
  have g1 := hB.lt
  refine z_p (kk := ?_)
  refine Ops.nil ?_
  refine W.toJ (JW.seq (by exact rfl) ?_)
  (repeat (first | with_reducible refine Ops.nil ?_ | with_reducible refine W.region ?_ | refine z_p (kk := ?_)))
  refine W.endl ?_
  refine allsO (b1 := b1) (n := n) (A := A) (cap := cap) (own0 := fun k => k = b2) (I := fun done own W => ∃ v vs, RSO w W v vs done ∧ Blk W b2 #[v] 22 ∧ own b2 ∧ (∀ k, own k → k = b2 ∨ wE.heap.size + 1 < k) ∧ (∀ i, v.ownBlock = some i → own i ∧ i ≠ b2) ∧ (∀ j, j < done.length → ∀ i, (vs.getD j undef).ownBlock = some i → ¬ own i ∧ wE.heap.size + 1 < i ∧ i < W.heap.size) ∧ ∀ k, own k → k < W.heap.size)
    hn rfl (by exact rfl) (by exact rfl) B1 (by omega) (fun x hx => by omega) (fun done own W W' h k => ?_) ⟨_, _, ⟨OI.nil hb, rfl, fun j hj => by simp at hj, fun j hj => by simp at hj, fun j hj => by simp at hj⟩, B2, rfl, fun k e => .inl e, fun i hi => by simp [Value.ownBlock] at hi, fun j hj => by simp at hj, fun k hk => by omega⟩ (fun L done own a Aa m wp hL2 h hpre hAa hs hm ho hW => ?_) (fun D w9 own hD h hdf => ?_)
  · obtain ⟨v, vs, q1, q2, q3, q4, q5, q6, q7⟩ := h
    refine ⟨v, vs, q1.kp k (fun i hi => ⟨by omega, fun e => ?_, fun j hj e => ?_⟩), q2.kp k (fun e => by omega), q3, q4, q5, fun j hj i e => ⟨(q6 j hj i e).1, (q6 j hj i e).2.1, by have := (q6 j hj i e).2.2; have := k.size; omega⟩, fun x hx => by have := q7 x hx; have := k.size; omega⟩
    · have h5 := q5 i e
      have h4 := q4 i h5.1
      omega
    · have h6 := (q6 j hj i e).2
      omega
  · refine Wi.regionN rfl rfl ?_
    (repeat (first | with_reducible refine Ops.nil ?_ | refine z_p (kk := ?_)))
    refine W.endl ⟨rfl, rfl, fun wq h' hsq hwq => ?_⟩
    obtain ⟨v, vs, q1, q2, q3, q4, q5, q6, q7⟩ := h'
    have hdl : done.length < 823543 := by
      obtain ⟨rest, e⟩ := hpre
      have := congrArg List.length e
      simp at this
      omega
    have hvl := q1.len
    refine Wi.block (Wi.regionN rfl rfl ?_)
    have hbqq : Below wq.heap.size wq wq := Below.refl _ _
    (repeat (first | refine z_p (kk := ?_) | refine z_d (kk := ?_)))
    refine Ops.pushO (enc := fun v : Value => v) (u := .slice Aa a.length m) rfl rfl rfl rfl rfl rfl rfl rfl rfl rfl rfl rfl (fun _ => rfl) rfl q1.o (by omega) (fun v9 p w9 hO9 k9 hn9 => ?_)
    have q2' : Blk w9 b2 #[v] 22 := q2.kp k9 (fun e => (q5 _ e).2 rfl)
    have hone : v9.oneCell' = true := by rcases hO9.own.2 with ⟨e, _⟩ | ⟨g, cap, cur, e, _⟩ <;> (rw [e]; rfl)
    refine Ops.st rfl rfl rfl rfl rfl rfl hone q2' (by simp) (fun wt hut => Ops.nil (W.endl ?_))
    have hkk : Kp (fun k => own k ∨ v9.ownBlock = some k) wq wt := (k9.trans hut.kp).mono (fun i hi e => by
      rcases e with e | e
      · exact .inl (q5 i e).1
      · exact .inl (e ▸ q3))
    have hal : ∀ i, (Value.slice Aa a.length m).ownBlock = some i → i < wq.heap.size := fun i hi => (World.ownsRow.lt hsq i hi).2
    have hgs : w.heap.size ≤ b2 := by omega
    have sz9 := k9.size
    have szt := hut.size
    have h9lt : ∀ i, v9.ownBlock = some i → i < w9.heap.size := fun i hi => (hO9.own.lt i hi).2
    have hnw : ∀ i, v9.ownBlock = some i → i ≠ b2 ∧ wE.heap.size + 1 < i := fun i hi => by
      rcases hn9 i hi with e | e
      · have h5 := q5 i e
        have h4 := q4 i h5.1
        exact ⟨h5.2, by omega⟩
      · exact ⟨by omega, by omega⟩
    have hRS : RSO w wt v9 (vs ++ [.slice Aa a.length m]) (done ++ [a]) := by
      refine ⟨hO9.kp hut.kp (fun i e => ⟨by omega, fun e2 => (hnw i e2).1 e⟩), by simp [hvl], fun j hj => ?_, fun j hj i e => ?_, fun j hj => ?_⟩
      · by_cases ej : j = done.length
        · subst ej
          rw [show (vs ++ [Value.slice Aa a.length m]).getD done.length undef = Value.slice Aa a.length m by rw [← hvl]; simp [List.getD_eq_getElem?_getD], show (done ++ [a]).getD done.length [] = a by simp [List.getD_eq_getElem?_getD]]
          refine own_kp hsq hkk (fun i hi e => ?_)
          have h1 := ho i hi
          rcases e with e | e
          · exact h1.1 e
          · rcases hn9 i e with e2 | e2
            · exact h1.1 (q5 i e2).1
            · have := hal i hi; omega
        · have hj' : j < done.length := by simp at hj; omega
          rw [show (vs ++ [Value.slice Aa a.length m]).getD j undef = vs.getD j undef by simp [List.getD_eq_getElem?_getD, List.getElem?_append_left (show j < vs.length by omega)], show (done ++ [a]).getD j [] = done.getD j [] by simp [List.getD_eq_getElem?_getD, List.getElem?_append_left hj']]
          refine own_kp (q1.rows j hj') hkk (fun i hi e => ?_)
          have h6 := q6 j hj' i hi
          rcases e with e | e
          · exact h6.1 e
          · rcases hn9 i e with e2 | e2
            · exact h6.1 (q5 i e2).1
            · have := h6.2.2; omega
      · by_cases ej : j = done.length
        · subst ej
          rw [show (vs ++ [Value.slice Aa a.length m]).getD done.length undef = Value.slice Aa a.length m by rw [← hvl]; simp [List.getD_eq_getElem?_getD]] at e
          have h1 := ho i e
          refine ⟨by omega, fun e3 => ?_⟩
          rcases hn9 i e3 with e2 | e2
          · exact h1.1 (q5 i e2).1
          · have := hal i e; omega
        · have hj' : j < done.length := by simp at hj; omega
          rw [show (vs ++ [Value.slice Aa a.length m]).getD j undef = vs.getD j undef by simp [List.getD_eq_getElem?_getD, List.getElem?_append_left (show j < vs.length by omega)]] at e
          have h6 := q6 j hj' i e
          refine ⟨(q1.ge j hj' i e).1, fun e3 => ?_⟩
          rcases hn9 i e3 with e2 | e2
          · exact h6.1 (q5 i e2).1
          · have := h6.2.2; omega
      · by_cases ej : j = done.length
        · subst ej
          rw [show (vs ++ [Value.slice Aa a.length m]).getD done.length undef = Value.slice Aa a.length m by rw [← hvl]; simp [List.getD_eq_getElem?_getD], show (done ++ [a]).getD done.length [] = a by simp [List.getD_eq_getElem?_getD]]
          exact ⟨_, _, rfl, hm⟩
        · have hj' : j < done.length := by simp at hj; omega
          rw [show (vs ++ [Value.slice Aa a.length m]).getD j undef = vs.getD j undef by simp [List.getD_eq_getElem?_getD, List.getElem?_append_left (show j < vs.length by omega)], show (done ++ [a]).getD j [] = done.getD j [] by simp [List.getD_eq_getElem?_getD, List.getElem?_append_left hj']]
          exact q1.cap j hj'
    refine ⟨rfl, fun k => own k ∨ v9.ownBlock = some k, ⟨v9, _, hRS, hut.blk, .inl q3, fun k e => ?_, fun i hi => ⟨.inr hi, (hnw i hi).1⟩, fun j hj i e => ⟨fun e2 => ?_, ?_⟩, fun x h => ?_⟩, hkk, fun x h => .inl h, fun x h => ?_, fun x h => ?_⟩
    · rcases e with e | e
      · exact q4 k e
      · exact .inr (hnw k e).2
    · have hge := (hRS.ge j hj i e).2
      rcases e2 with e2 | e2
      · by_cases ej : j = done.length
        · subst ej
          rw [show (vs ++ [Value.slice Aa a.length m]).getD done.length undef = Value.slice Aa a.length m by rw [← hvl]; simp [List.getD_eq_getElem?_getD]] at e
          exact (ho i e).1 e2
        · have hj' : j < done.length := by simp at hj; omega
          rw [show (vs ++ [Value.slice Aa a.length m]).getD j undef = vs.getD j undef by simp [List.getD_eq_getElem?_getD, List.getElem?_append_left (show j < vs.length by omega)]] at e
          exact (q6 j hj' i e).1 e2
      · exact hge e2
    · by_cases ej : j = done.length
      · subst ej
        rw [show (vs ++ [Value.slice Aa a.length m]).getD done.length undef = Value.slice Aa a.length m by rw [← hvl]; simp [List.getD_eq_getElem?_getD]] at e
        exact ⟨(ho i e).2, by have := hal i e; omega⟩
      · have hj' : j < done.length := by simp at hj; omega
        rw [show (vs ++ [Value.slice Aa a.length m]).getD j undef = vs.getD j undef by simp [List.getD_eq_getElem?_getD, List.getElem?_append_left (show j < vs.length by omega)]] at e
        exact ⟨(q6 j hj' i e).2.1, by have := (q6 j hj' i e).2.2; omega⟩
    · rcases h with h | h
      · have := q7 x h; omega
      · have := h9lt x h; omega
    · rcases h with h | h
      · exact .inl h
      · rcases hn9 x h with e | e
        · exact .inl (q5 x e).1
        · exact .inr e
    · rcases h with h | h
      · have := q7 x h; omega
      · have := h9lt x h; omega
  · obtain ⟨v, vs, q1, q2, q3, q4, q5, q6, q7⟩ := h
    have hb99 : Below w9.heap.size w9 w9 := Below.refl _ _
    (repeat (first | with_reducible refine W.seq ?_ | with_reducible refine Ops.nil ?_ | with_reducible refine W.region ?_ | refine z_p (kk := ?_) | refine z_d (kk := ?_)))
    have hkD := kp_putObj (w := w9) (r := D) (.deferred none)
    refine W.ret ⟨rfl, hdf, _, fun a hr => run_results hr rfl, vs, q1.kp hkD (fun i e => ⟨by omega, fun e2 => ?_, fun j hj e2 => ?_⟩)⟩
    · have h5 := q5 i e2
      have h4 := q4 i h5.1
      omega
    · have h6 := (q6 j hj i e2).2
      omega
end Go.Proofs.Ytehjmakiljhjdaa.O
