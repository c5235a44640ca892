/- A part of the walk: what this seat's statements share. -/
import Derived.Test.YtehjmakiljhjdaaZG12
import Derived.Test.YtehjmakiljhjdaaZG11
import Derived.Test.YtehjmakiljhjdaaZG10
import Derived.Test.YtehjmakiljhjdaaZG6
import Derived.Test.YtehjmakiljhjdaaZG9
set_option linter.unusedVariables false
set_option linter.unusedSimpArgs false
set_option linter.unusedSectionVars false
namespace Go.Proofs.Ytehjmakiljhjdaa
open Go Go.RowKit Go.Proofs.Ytehjmakiljhjdaa.VW
attribute [local irreducible] W Ops OrdA VW.Ord OrdX Wi OpsI OrdF
theorem Collect_c {w : World} {b1 n cap : Nat} {A : Option Addr} (hn : n ≤ 7) (hn0 : 0 < n) (hB : Blk w b1 #[.slice A n cap] 71) :
    Calls Try.prog 79 #[.func (.func 90) #[] #[.pointer (some ⟨b1, 0, none⟩)]] w (Ret fun r w' => ∃ vs, RS w w' r vs (allL n)) := by
  refine calls_W (vs := [_]) Try.func79 rfl (by kernel_rfl) rfl ?_
  (repeat (first | with_reducible refine W.seq ?_ | with_reducible refine Ops.nil ?_ | with_reducible refine W.region ?_ | refine z_p (kk := ?_)))
  refine Ops.call rfl rfl rfl rfl rfl (AppendSeq_c hn hn0 hB) (fun r w1 hR => ?_)
  (repeat (first | with_reducible refine Ops.nil ?_ | refine z_p (kk := ?_)))
  exact W.fret rfl hR
set_option maxHeartbeats 2000000 in
theorem Item_c {w : World} {cv : Value} {c : List (List Int)} {k : Int} (hM : RowsM w cv c) :
    Calls Try.prog 48 #[cv, .int .i64 k] w (Ret fun r w' => Below w.heap.size w w' ∧
      ((costsB c = true ∧ 0 ≤ k ∧ k < (allL c.length).length → ∃ v p, r = .tuple #[v, .int .i64 0] ∧ p < (allL c.length).length ∧ rank c p = k.toNat ∧ SlI w' v ((allL c.length).getD p [])) ∧
       (¬ (costsB c = true ∧ 0 ≤ k ∧ k < (allL c.length).length) → r = .tuple #[.slice none 0 0, .int .i64 2]))) := by
  obtain ⟨Ac, cc, rfl⟩ := hM.sl
  refine calls_W (vs := [_, _]) Try.func48 rfl (by kernel_rfl) rfl ?_
  (repeat (first | with_reducible refine W.seq ?_ | with_reducible refine W.region ?_))
  refine Ops.box rfl rfl rfl rfl (fun w1 b2 hM2 => ?_)
  have e2 := hM2.r_eq
  have s2 := hM2.size
  have hb : Below w.heap.size w w1 := Mk.bel hM2
  have B2 : Blk w1 b2 #[.slice Ac c.length cc] 22 := hM2.at_
  have hM1 := hM.below hb
  have hb11 : Below w1.heap.size w1 w1 := Below.refl _ _
  (repeat (first | with_reducible refine W.seq ?_ | with_reducible refine Ops.nil ?_ | with_reducible refine W.region ?_ | refine z_p (kk := ?_) | refine z_d (kk := ?_)))
  refine Ops.call rfl rfl rfl rfl rfl (areCosts_c hM1) (fun r w2 hR => ?_)
  obtain ⟨rfl, hb2⟩ := hR
  have hb02 := Below.via hb hb2
  cases hc : costsB c with
  | false =>
    (repeat (first | with_reducible refine Ops.nil ?_ | refine z_p (kk := ?_)))
    refine W.condT rfl (by first | rfl | assumption | (simp only [bnf] <;> omega) | (simp only [*, bnf]; done) | fail) ?_
    (repeat (first | with_reducible refine W.seq ?_ | with_reducible refine Ops.nil ?_ | with_reducible refine W.region ?_ | refine z_p (kk := ?_)))
    exact W.fret rfl ⟨hb02, fun h => by simp at h, fun _ => rfl⟩
  | true =>
    have hC := costs_iff.1 hc
    have hn7 := hC.n7
    have hn1 := hC.n1
    have hL := levL_lt (n := c.length) (i := c.length) hn7 hn7
    have hpos := allL_pos (n := c.length)
    change (allL c.length).length ≤ 823543 at hL
    (repeat (first | with_reducible refine Ops.nil ?_ | refine z_p (kk := ?_)))
    refine W.condF rfl (by first | rfl | assumption | (simp only [bnf] <;> omega) | (simp only [*, bnf]; done) | fail) ?_
    (repeat (first | with_reducible refine W.seq ?_ | with_reducible refine W.region ?_ | with_reducible refine W.skip ?_ | refine z_D (kk := ?_)))
    refine Ops.call rfl rfl rfl rfl rfl all_c (fun rv wE hR => ?_)
    obtain ⟨b90, rfl, hB90, hge, hlE⟩ := hR
    have hB90' : Blk wE b90 #[.slice Ac c.length cc] 71 := hB90
    skip
    refine Ops.call rfl rfl rfl rfl rfl (Collect_c hn7 (by omega) hB90') (fun ov w4 hR => ?_)
    obtain ⟨vs, hRS⟩ := hR
    have hb04 := Below.via (Below.via hb02 hlE) hRS.o.bel
    have hvl := hRS.len
    have hown : w4.ownsRow 0 23 1 ov (allL c.length).length vs := by
      have := hRS.o.own
      rw [hvl] at this
      simpa using this
    obtain ⟨Ao, co, rfl⟩ : ∃ Ao co, ov = .slice Ao (allL c.length).length co := by
      rcases hown.2 with ⟨e, h0⟩ | ⟨g, cap, cur, e, _⟩
      · omega
      · exact ⟨_, _, e⟩
    (repeat (first | with_reducible refine W.seq ?_ | with_reducible refine Ops.nil ?_ | with_reducible refine W.region ?_ | refine z_p (kk := ?_) | refine z_a (kk := ?_) | refine z_l (kk := ?_)))
    refine Ops.callS rfl rfl rfl rfl rfl (within_c _ _ _ _) ?_
    by_cases hin : 0 ≤ k ∧ k < (allL c.length).length
    · have hir : inR k 0 ((allL c.length).length - 1) = true := by simp [inR]; omega
      rw [hir]
      have hb14 : Below w1.heap.size w1 w4 := Below.via (Below.via hb2 hlE) hRS.o.bel
      have B24 : Blk w4 b2 #[.slice Ac c.length cc] 22 := B2.kp (Kp.of_below (S := fun _ => False) hb14) (fun e => e)
      have hgeo : ∀ i, (Value.slice Ao (allL c.length).length co).ownBlock = some i → wE.heap.size ≤ i := hRS.o.ge
      have hbE := (Below.via hb2 hlE).size
      have hsort := sortF_c hC hown B24 (fun e => by have := hgeo _ e; omega) (fun W hk => hM.below (Below.put hb04 hk (fun i e => by have := hgeo _ e; have := hb.size; omega))) (fun q hq W hk => Sl.kp (hRS.rows q hq) hk (fun i hi e => (hRS.ge q hq i hi).2 e)) (by omega) hpos
      (repeat (first | with_reducible refine Ops.nil ?_ | refine z_p (kk := ?_)))
      refine W.condF rfl (by first | rfl | assumption | (simp only [bnf] <;> omega) | (simp only [*, bnf]; done) | fail) ?_
      (repeat (first | with_reducible refine W.seq ?_ | with_reducible refine W.region ?_ | refine z_p (kk := ?_) | with_reducible refine W.skip ?_))
      refine Ops.call rfl rfl rfl rfl rfl hsort (fun r w5 hR => ?_)
      obtain ⟨rfl, hk5, vs', hown5, hrk⟩ := hR
      have hl5 : vs'.length = (allL c.length).length := by have := hown5.1; omega
      have hb05 : Below w.heap.size w w5 := Below.put hb04 hk5 (fun i e => by have := hgeo _ e; have := hb.size; omega)
      have hsl5 : Sl (fun v : Value => v) undef w5 (.slice Ao (allL c.length).length co) vs' := own_sl (e := 23) (by rw [hl5]; simpa using hown5)
      obtain ⟨p, hp, hpk, hpe⟩ := hrk k.toNat (by omega)
      have hsp : SlI w5 (vs.getD p undef) ((allL c.length).getD p []) := Sl.kp (hRS.rows p hp) hk5 (fun i hi e => (hRS.ge p hp i hi).2 e)
      rw [← hpe] at hsp
      (repeat (first | with_reducible refine W.seq ?_ | with_reducible refine Ops.nil ?_ | with_reducible refine W.region ?_ | refine z_p (kk := ?_)))
      refine Ops.rdS rfl rfl rfl rfl rfl rfl rfl rfl rfl rfl rfl hsl5 hin.1 (by omega) (fun q => ?_)
      (repeat (first | with_reducible refine Ops.nil ?_ | refine z_p (kk := ?_)))
      exact W.fret rfl ⟨hb05, fun _ => ⟨_, p, rfl, hp, hpk, hsp⟩, fun h => absurd ⟨rfl, hin⟩ h⟩
    · have hir : inR k 0 ((allL c.length).length - 1) = false := by simp [inR]; omega
      rw [hir]
      (repeat (first | with_reducible refine Ops.nil ?_ | refine z_p (kk := ?_)))
      refine W.condT rfl (by first | rfl | assumption | (simp only [bnf] <;> omega) | (simp only [*, bnf]; done) | fail) ?_
      (repeat (first | with_reducible refine W.seq ?_ | with_reducible refine Ops.nil ?_ | with_reducible refine W.region ?_ | refine z_p (kk := ?_)))
      exact W.fret rfl ⟨hb04, fun h => absurd h.2 hin, fun _ => rfl⟩
end Go.Proofs.Ytehjmakiljhjdaa
namespace Go.Proofs.Ytehjmakiljhjdaa
open Go Go.RowKit Go.Proofs.Ytehjmakiljhjdaa.VW
attribute [local irreducible] W Ops OrdA VW.Ord OrdX
set_option maxHeartbeats 2000000 in
theorem refWithin_c {w : World} {cv : Value} {c : List (List Int)} {most : Int} (hM : RowsM w cv c) (hC : Cst c) :
    Calls Try.prog 49 #[cv, .int .i64 most] w (Ret fun r w' => r = .int .i64 (cnL (leT c most) (allL c.length) : Nat) ∧ Below w.heap.size w w') := by
  have hn7 := hC.n7
  have hL := levL_lt (n := c.length) (i := c.length) hn7 hn7
  change (allL c.length).length ≤ 823543 at hL
  obtain ⟨Ac, cc, rfl⟩ := hM.sl
  refine calls_W (vs := [_, _]) Try.func49 rfl (by kernel_rfl) rfl ?_
  (repeat (first | with_reducible refine W.seq ?_ | with_reducible refine Ops.nil ?_ | with_reducible refine W.region ?_ | refine z_p (kk := ?_) | refine z_l (kk := ?_)))
  refine Ops.call rfl rfl rfl rfl rfl (All_c hn7) (fun r w1 hR => ?_)
  obtain ⟨lvs, hR⟩ := hR
  have hb1 := hR.o.bel
  have hML := hR.rowsM
  obtain ⟨AL, cL, rfl⟩ := hML.sl
  have hrow : ∀ i : Nat, row (allL c.length) i = (allL c.length).getD i [] := fun i => by simp [row]
  have hasg : ∀ i : Nat, i < (allL c.length).length → Asg (row (allL c.length) i) c.length := fun i hi => by rw [hrow]; exact all_asg hi
  (repeat (first | with_reducible refine W.seq ?_ | with_reducible refine Ops.nil ?_ | with_reducible refine W.region ?_ | refine z_p (kk := ?_) | with_reducible refine W.block ?_))
  refine W.loop (fun m ρ w3 => ∃ (i : Nat), m = (allL c.length).length - i ∧ i ≤ (allL c.length).length ∧ ρ = [(0, .slice Ac c.length cc), (1, .int .i64 most), (5, .slice AL (allL c.length).length cL), (6, .int .i64 (cnL (leT c most) ((allL c.length).take i) : Nat)), (7, .int .i64 i)] ∧ Below w1.heap.size w1 w3)
    ⟨_, _, ⟨0, rfl, Nat.zero_le _, rfl, Below.refl _ _⟩, (by repeat (first | exact trivial | refine And.intro rfl ?_))⟩ ?_
  rintro m ρ w3 ⟨i, rfl, hi, rfl, hb3⟩
  have hb03 := Below.via hb1 hb3
  (repeat (first | with_reducible refine W.seq ?_ | with_reducible refine Ops.nil ?_ | with_reducible refine W.region ?_ | refine z_p (kk := ?_) | refine z_l (kk := ?_)))
  (first | refine W.condD rfl (fun hc => ?_) (fun hc => ?_) | refine W.condE rfl (fun hc => ?_) (fun hc => ?_) | refine W.condN rfl (fun hc => ?_) (fun hc => ?_) | refine W.cond rfl (fun hc => ?_) (fun hc => ?_))
  · have hil : i < (allL c.length).length := by omega
    have hai := hasg i hil
    have hcl := cnL_le (leT c most) ((allL c.length).take i)
    rw [List.length_take] at hcl
    have hsn := cnL_snoc (leT c most) ((allL c.length).take i) (row (allL c.length) i)
    rw [hrow, ← take_succL hil] at hsn
    have hbe : leT c most ((allL c.length).getD i []) = decide (totP c (row (allL c.length) i) c.length ≤ most) := by rw [hrow]; rfl
    rw [hbe] at hsn
    (repeat (first | with_reducible refine W.seq ?_ | with_reducible refine W.region ?_ | refine z_p (kk := ?_) | with_reducible refine W.skip ?_ | with_reducible refine W.block ?_ | refine z_r (kk := fun _ _ _ _ => ?_)))
    rename_i Ai mi _ hsi
    refine Ops.call rfl rfl rfl rfl rfl (refTotal_c (hM.below hb03) hC (Sl.below hsi hb3) (fun q hq => (hai.2 q hq).1) (by rw [hai.1]; exact Nat.le_refl _)) (fun r w4 hR => ?_)
    obtain ⟨rfl, hb4⟩ := hR
    have hb14 := Below.via hb3 hb4
    rw [show totP c (row (allL c.length) i) (row (allL c.length) i).length = totP c (row (allL c.length) i) c.length by rw [hai.1]]
    (repeat (first | with_reducible refine Ops.nil ?_ | refine z_p (kk := ?_)))
    by_cases h1 : totP c (row (allL c.length) i) c.length ≤ most
    · rw [decide_eq_true h1, if_pos rfl] at hsn
      refine W.condT rfl (by first | rfl | assumption | (simp only [bnf] <;> omega) | (simp only [*, bnf]; done) | fail) ?_
      (repeat (first | with_reducible refine Ops.nil ?_ | with_reducible refine W.region ?_ | refine z_p (kk := ?_) | refine z_a (kk := ?_) | with_reducible refine W.endb ?_))
      refine W.endl ⟨_, _, ⟨⟨i + 1, rfl, by omega, rfl, hb14⟩, by omega⟩, ?_⟩
      rw [hsn]
      exact (by repeat (first | exact trivial | refine And.intro rfl ?_))
    · rw [decide_eq_false h1, if_neg (by simp)] at hsn
      refine W.condF rfl (by first | rfl | assumption | (simp only [bnf] <;> omega) | (simp only [*, bnf]; done) | fail) ?_
      (repeat (first | with_reducible refine Ops.nil ?_ | with_reducible refine W.region ?_ | refine z_p (kk := ?_) | refine z_a (kk := ?_) | with_reducible refine W.skip ?_ | with_reducible refine W.endb ?_))
      refine W.endl ⟨_, _, ⟨⟨i + 1, rfl, by omega, rfl, hb14⟩, by omega⟩, ?_⟩
      rw [hsn]
      exact (by repeat (first | exact trivial | refine And.intro rfl ?_))
  · have hil : i = (allL c.length).length := by omega
    subst hil
    rw [List.take_length]
    (repeat (first | with_reducible refine W.seq ?_ | with_reducible refine Ops.nil ?_ | with_reducible refine W.region ?_ | refine z_p (kk := ?_) | refine W.exit rfl ?_))
    exact W.fret rfl ⟨rfl, hb03⟩
set_option maxHeartbeats 4000000 in
theorem itemsLaw_c {w : World} {mv : Value} {k : Int} {l : List (List Int)} (hm : ArgR w mv l) :
    Calls Try.prog 12 #[mv, .int .i64 k] w (Ret fun r w' => r = .bool true ∧ Below w.heap.size w w') := by
  refine calls_W (vs := [_, _]) Try.func12 rfl (by kernel_rfl) rfl ?_
  (repeat (first | with_reducible refine W.seq ?_ | with_reducible refine Ops.nil ?_ | with_reducible refine W.region ?_ | refine z_p (kk := ?_)))
  refine Ops.call rfl rfl rfl rfl rfl (table_c hm) (fun tv w1 hR => ?_)
  obtain ⟨cvs, hR⟩ := hR
  have hb1 := hR.o.bel
  have hM1 := hR.rowsM
  clear hR hm
  generalize tab l = c at *
  obtain ⟨At, ct, rfl⟩ := hM1.sl
  (repeat (first | with_reducible refine W.seq ?_ | with_reducible refine Ops.nil ?_ | with_reducible refine W.region ?_ | refine z_p (kk := ?_)))
  refine Ops.call rfl rfl rfl rfl rfl (Item_c hM1) (fun r w2 hR2 => ?_)
  obtain ⟨hb2, hyes, hno⟩ := hR2
  have hb02 := Below.via hb1 hb2
  have hM2 := hM1.below hb2
  cases hc : costsB c with
  | false =>
    obtain rfl := hno (by simp [hc])
    (repeat (first | with_reducible refine W.seq ?_ | with_reducible refine Ops.nil ?_ | with_reducible refine W.region ?_ | refine z_p (kk := ?_)))
    refine Ops.call rfl rfl rfl rfl rfl (Within_c hM2) (fun r w3 hR => ?_)
    obtain ⟨rfl, hb3⟩ := hR
    have hM3 := hM2.below hb3
    rw [if_neg (by simp [hc])]
    (repeat (first | with_reducible refine W.seq ?_ | with_reducible refine Ops.nil ?_ | with_reducible refine W.region ?_ | refine z_p (kk := ?_)))
    refine Ops.call rfl rfl rfl rfl rfl (refCosts_c hM3) (fun r w5 hR5 => ?_)
    obtain ⟨rfl, hb5⟩ := hR5
    rw [hc]
    (repeat (first | with_reducible refine Ops.nil ?_ | refine z_p (kk := ?_)))
    refine W.condT rfl (by first | rfl | assumption | (simp only [bnf] <;> omega) | (simp only [*, bnf]; done) | fail) ?_
    (repeat (first | with_reducible refine W.seq ?_ | with_reducible refine W.region ?_ | refine z_p (kk := ?_) | refine z_y (kk := ?_) | refine z_l (kk := ?_)))
    refine Ops.call rfl rfl rfl rfl rfl (awake_c _) (fun r w6 hR => ?_)
    obtain ⟨rfl, hb6⟩ := hR
    (repeat (first | with_reducible refine Ops.nil ?_ | refine z_p (kk := ?_)))
    exact W.fret rfl ⟨rfl, Below.via hb02 (Below.via hb3 (Below.via hb5 hb6))⟩
  | true =>
    have hC := costs_iff.1 hc
    have hn7 := hC.n7
    have hL := levL_lt (n := c.length) (i := c.length) hn7 hn7
    have hpos := allL_pos (n := c.length)
    change (allL c.length).length ≤ 823543 at hL
    simp only [hc, true_and] at hyes hno
    by_cases hin : 0 ≤ k ∧ k < (allL c.length).length
    · obtain ⟨v, p, rfl, hp, hpk, hsv⟩ := hyes hin
      obtain ⟨k0, rfl⟩ := Int.eq_ofNat_of_zero_le hin.1
      have hpa := all_asg hp
      have hk0 : k0 < (allL c.length).length := by omega
      obtain ⟨Av, mv', rfl⟩ := Sl.shape hsv
      (repeat (first | with_reducible refine W.seq ?_ | with_reducible refine Ops.nil ?_ | with_reducible refine W.region ?_ | refine z_p (kk := ?_)))
      refine Ops.call rfl rfl rfl rfl rfl (Within_c hM2) (fun r w3 hR => ?_)
      obtain ⟨rfl, hb3⟩ := hR
      have hM3 := hM2.below hb3
      rw [if_pos hc]
      (repeat (first | with_reducible refine W.seq ?_ | with_reducible refine Ops.nil ?_ | with_reducible refine W.region ?_ | refine z_p (kk := ?_)))
      refine Ops.call rfl rfl rfl rfl rfl (refCosts_c hM3) (fun r w5 hR5 => ?_)
      obtain ⟨rfl, hb5⟩ := hR5
      rw [hc]
      have hM5 := hM3.below hb5
      (repeat (first | with_reducible refine Ops.nil ?_ | refine z_p (kk := ?_)))
      refine W.condF rfl (by first | rfl | assumption | (simp only [bnf] <;> omega) | (simp only [*, bnf]; done) | fail) ?_
      (repeat (first | with_reducible refine W.seq ?_ | with_reducible refine W.region ?_ | refine z_p (kk := ?_) | with_reducible refine W.skip ?_))
      refine Ops.call rfl rfl rfl rfl rfl (refWithin_c hM5 hC) (fun r w6 hR => ?_)
      obtain ⟨rfl, hb6⟩ := hR
      have hM6 := hM5.below hb6
      (repeat (first | with_reducible refine Ops.nil ?_ | refine z_p (kk := ?_) | refine z_y (kk := ?_) | refine z_h (kk := ?_)))
      refine W.condF rfl (by first | rfl | assumption | (simp only [bnf] <;> omega) | (simp only [*, bnf]; done) | fail) ?_
      (repeat (first | with_reducible refine W.seq ?_ | with_reducible refine W.region ?_ | refine z_p (kk := ?_) | refine z_y (kk := ?_) | with_reducible refine W.skip ?_ | refine z_l (kk := ?_)))
      refine Ops.call rfl rfl rfl rfl rfl (All_c hn7) (fun r w7 hR => ?_)
      obtain ⟨lvs, hR⟩ := hR
      have hb7 := hR.o.bel
      have hML := hR.rowsM
      obtain ⟨AL, cL, rfl⟩ := hML.sl
      (repeat (first | with_reducible refine Ops.nil ?_ | refine z_p (kk := ?_) | refine z_y (kk := ?_) | refine z_l (kk := ?_)))
      refine W.condF rfl (by first | rfl | assumption | (simp only [bnf] <;> omega) | (simp only [*, bnf]; done) | fail) ?_
      (repeat (first | with_reducible refine W.seq ?_ | with_reducible refine W.region ?_ | refine z_p (kk := ?_) | with_reducible refine W.skip ?_))
      refine Ops.call rfl rfl rfl rfl rfl (Item_ref_c (hM6.below hb7) hC hk0) (fun r w8 hR8 => ?_)
      obtain ⟨⟨p2, hp2, hpk2, hs2⟩, hb8⟩ := hR8
      have hpp : p = p2 := rank_inj hp hp2 (by rw [hpk, hpk2]; simp)
      subst hpp
      have hb38 := Below.via hb3 (Below.via hb5 (Below.via hb6 (Below.via hb7 hb8)))
      skip
      refine Ops.call rfl rfl rfl rfl rfl (ints_c (Sl.below hsv hb38) hs2) (fun r w9 hR => ?_)
      obtain ⟨rfl, hb9⟩ := hR
      rw [decide_eq_true rfl]
      (repeat (first | refine z_p (kk := ?_) | refine z_y (kk := ?_)))
      refine Ops.call rfl rfl rfl rfl rfl (awake_c _) (fun r w10 hR => ?_)
      obtain ⟨rfl, hb10⟩ := hR
      (repeat (first | with_reducible refine Ops.nil ?_ | refine z_p (kk := ?_)))
      exact W.fret rfl ⟨rfl, Below.via hb02 (Below.via hb38 (Below.via hb9 hb10))⟩
    · obtain rfl := hno hin
      clear hyes hno
      (repeat (first | with_reducible refine W.seq ?_ | with_reducible refine Ops.nil ?_ | with_reducible refine W.region ?_ | refine z_p (kk := ?_)))
      refine Ops.call rfl rfl rfl rfl rfl (Within_c hM2) (fun r w3 hR => ?_)
      obtain ⟨rfl, hb3⟩ := hR
      have hM3 := hM2.below hb3
      rw [if_pos hc]
      (repeat (first | with_reducible refine W.seq ?_ | with_reducible refine Ops.nil ?_ | with_reducible refine W.region ?_ | refine z_p (kk := ?_)))
      refine Ops.call rfl rfl rfl rfl rfl (refCosts_c hM3) (fun r w5 hR5 => ?_)
      obtain ⟨rfl, hb5⟩ := hR5
      rw [hc]
      have hM5 := hM3.below hb5
      (repeat (first | with_reducible refine Ops.nil ?_ | refine z_p (kk := ?_)))
      refine W.condF rfl (by first | rfl | assumption | (simp only [bnf] <;> omega) | (simp only [*, bnf]; done) | fail) ?_
      (repeat (first | with_reducible refine W.seq ?_ | with_reducible refine W.region ?_ | refine z_p (kk := ?_) | with_reducible refine W.skip ?_))
      refine Ops.call rfl rfl rfl rfl rfl (refWithin_c hM5 hC) (fun r w6 hR => ?_)
      obtain ⟨rfl, hb6⟩ := hR
      have hM6 := hM5.below hb6
      (repeat (first | with_reducible refine Ops.nil ?_ | refine z_p (kk := ?_) | refine z_y (kk := ?_) | refine z_h (kk := ?_)))
      refine W.condF rfl (by first | rfl | assumption | (simp only [bnf] <;> omega) | (simp only [*, bnf]; done) | fail) ?_
      have hb06 := Below.via hb02 (Below.via hb3 (Below.via hb5 hb6))
      by_cases hk : k < 0
      · (repeat (first | with_reducible refine W.seq ?_ | with_reducible refine Ops.nil ?_ | with_reducible refine W.region ?_ | refine z_p (kk := ?_) | refine z_n (kk := ?_) | with_reducible refine W.skip ?_ | refine z_g (kk := ?_)))
        refine W.condT rfl (by first | rfl | assumption | (simp only [bnf] <;> omega) | (simp only [*, bnf]; done) | fail) ?_
        (repeat (first | with_reducible refine W.seq ?_ | with_reducible refine W.region ?_ | refine z_p (kk := ?_) | refine z_y (kk := ?_) | refine z_l (kk := ?_)))
        refine Ops.call rfl rfl rfl rfl rfl (awake_c _) (fun r w10 hR => ?_)
        obtain ⟨rfl, hb10⟩ := hR
        (repeat (first | with_reducible refine Ops.nil ?_ | refine z_p (kk := ?_)))
        exact W.fret rfl ⟨rfl, Below.via hb06 hb10⟩
      · (repeat (first | with_reducible refine W.seq ?_ | with_reducible refine W.region ?_ | refine z_p (kk := ?_) | refine z_y (kk := ?_) | with_reducible refine W.skip ?_ | refine z_l (kk := ?_) | refine z_h (kk := ?_)))
        refine Ops.call rfl rfl rfl rfl rfl (All_c hn7) (fun r w7 hR => ?_)
        obtain ⟨lvs, hR⟩ := hR
        have hb7 := hR.o.bel
        have hML := hR.rowsM
        obtain ⟨AL, cL, rfl⟩ := hML.sl
        have hge : decide (k ≥ (allL c.length).length) = true := by rw [decide_eq_true_eq]; omega
        (repeat (first | with_reducible refine Ops.nil ?_ | refine z_p (kk := ?_) | refine z_y (kk := ?_) | refine z_l (kk := ?_)))
        refine W.condT rfl (by first | rfl | assumption | (simp only [bnf] <;> omega) | (simp only [*, bnf]; done) | fail) ?_
        (repeat (first | with_reducible refine W.seq ?_ | with_reducible refine W.region ?_ | refine z_p (kk := ?_) | refine z_y (kk := ?_) | refine z_l (kk := ?_)))
        refine Ops.call rfl rfl rfl rfl rfl (awake_c _) (fun r w10 hR => ?_)
        obtain ⟨rfl, hb10⟩ := hR
        (repeat (first | with_reducible refine Ops.nil ?_ | refine z_p (kk := ?_)))
        exact W.fret rfl ⟨rfl, Below.via hb06 (Below.via hb7 hb10)⟩
end Go.Proofs.Ytehjmakiljhjdaa
