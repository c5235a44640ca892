/- A part of the walk: what this seat's statements share. -/
import Derived.Test.YtehjmakiljhjdaaZG13
import Derived.Test.YtehjmakiljhjdaaZG11
import Derived.Test.YtehjmakiljhjdaaZG10
set_option linter.unusedVariables false
set_option linter.unusedSimpArgs false
set_option linter.unusedSectionVars false
namespace Go.Proofs.Ytehjmakiljhjdaa.O
open Go Go.RowKit Go.Proofs.Ytehjmakiljhjdaa.VW Go.Proofs.Ytehjmakiljhjdaa
attribute [local irreducible] W Ops OrdA VW.Ord OrdX Wi OpsI OrdF
theorem Collect_c {w : World} {b1 n cap : Nat} {A : Option Addr} (hn : n ≤ 7) (hn0 : 0 < n) (hB : Blk w b1 #[.slice A n cap] 71) :
    Calls Try.prog 79 #[.func (.func 90) #[] #[.pointer (some ⟨b1, 0, none⟩)]] w (Ret fun r w' => ∃ vs, RSO w w' r vs (allL n)) := by
  refine calls_W (vs := [_]) Try.func79 rfl (by kernel_rfl) rfl ?_
  (repeat (first | with_reducible refine W.seq ?_ | with_reducible refine Ops.nil ?_ | with_reducible refine W.region ?_ | refine Ops.pu rfl rfl rfl ?_))
  refine Ops.call rfl rfl rfl rfl rfl (AppendSeq_c hn hn0 hB) (fun r w1 hR => ?_)
  (repeat (first | with_reducible refine Ops.nil ?_ | refine Ops.pu rfl rfl rfl ?_))
  exact W.fret rfl hR
set_option maxHeartbeats 2000000 in
theorem Item_c {w : World} {cv : Value} {c : List (List Int)} {k : Int} (hM : RowsM w cv c) :
    Calls Try.prog 48 #[cv, .int .i64 k] w (Ret fun r w' => Below w.heap.size w w' ∧
      ((costsB c = true ∧ 0 ≤ k ∧ k < (allL c.length).length → ∃ v p, r = .tuple #[v, .int .i64 0] ∧ p < (allL c.length).length ∧ rank c p = k.toNat ∧ OI 3 (Value.int .i64) w w' v ((allL c.length).getD p [])) ∧
       (¬ (costsB c = true ∧ 0 ≤ k ∧ k < (allL c.length).length) → r = .tuple #[.slice none 0 0, .int .i64 2]))) := by
  obtain ⟨Ac, cc, rfl⟩ := hM.sl
  refine calls_W (vs := [_, _]) Try.func48 rfl (by kernel_rfl) rfl ?_
  (repeat (first | with_reducible refine W.seq ?_ | with_reducible refine W.region ?_))
  refine Ops.box rfl rfl rfl rfl (fun w1 b2 hM2 => ?_)
  have e2 := hM2.r_eq
  have s2 := hM2.size
  have hb : Below w.heap.size w w1 := Mk.bel hM2
  have B2 : Blk w1 b2 #[.slice Ac c.length cc] 22 := hM2.at_
  have hM1 := hM.below hb
  have hb11 : Below w1.heap.size w1 w1 := Below.refl _ _
  (repeat (first | with_reducible refine W.seq ?_ | with_reducible refine Ops.nil ?_ | with_reducible refine W.region ?_ | refine Ops.pu rfl rfl rfl ?_ | (apply Ops.ldB rfl rfl rfl rfl rfl; assumption; rfl)))
  refine Ops.call rfl rfl rfl rfl rfl (areCosts_c hM1) (fun r w2 hR => ?_)
  obtain ⟨rfl, hb2⟩ := hR
  have hb02 := Below.via hb hb2
  cases hc : costsB c with
  | false =>
    (repeat (first | with_reducible refine Ops.nil ?_ | refine Ops.pu rfl rfl rfl ?_))
    refine W.condT rfl (by first | rfl | assumption | (simp only [Int.toNat_natCast, beq_self_eq_true, decide_eq_true_eq, decide_eq_false_iff_not, beq_iff_eq, bne_iff_ne, ne_eq, beq_eq_false_iff_ne, bne_eq_false_iff_eq, Bool.not_true, Bool.not_false, Bool.not_eq_true', Bool.not_eq_false', beq_true, beq_false, Bool.not_not, gt_iff_lt, ge_iff_le, Bool.and_eq_true, Bool.or_eq_true, Bool.and_eq_false_iff, Bool.or_eq_false_iff, decide_not] <;> omega) | (simp only [*, Int.toNat_natCast, beq_self_eq_true, decide_eq_true_eq, decide_eq_false_iff_not, beq_iff_eq, bne_iff_ne, ne_eq, beq_eq_false_iff_ne, bne_eq_false_iff_eq, Bool.not_true, Bool.not_false, Bool.not_eq_true', Bool.not_eq_false', beq_true, beq_false, Bool.not_not, gt_iff_lt, ge_iff_le, Bool.and_eq_true, Bool.or_eq_true, Bool.and_eq_false_iff, Bool.or_eq_false_iff, decide_not]; done) | fail) ?_
    (repeat (first | with_reducible refine W.seq ?_ | with_reducible refine Ops.nil ?_ | with_reducible refine W.region ?_ | refine Ops.pu rfl rfl rfl ?_))
    exact W.fret rfl ⟨hb02, fun h => by simp at h, fun _ => rfl⟩
  | true =>
    have hC := costs_iff.1 hc
    have hn7 := hC.n7
    have hn1 := hC.n1
    have hL := levL_lt (n := c.length) (i := c.length) hn7 hn7
    have hpos := allL_pos (n := c.length)
    change (allL c.length).length ≤ 823543 at hL
    (repeat (first | with_reducible refine Ops.nil ?_ | refine Ops.pu rfl rfl rfl ?_))
    refine W.condF rfl (by first | rfl | assumption | (simp only [Int.toNat_natCast, beq_self_eq_true, decide_eq_true_eq, decide_eq_false_iff_not, beq_iff_eq, bne_iff_ne, ne_eq, beq_eq_false_iff_ne, bne_eq_false_iff_eq, Bool.not_true, Bool.not_false, Bool.not_eq_true', Bool.not_eq_false', beq_true, beq_false, Bool.not_not, gt_iff_lt, ge_iff_le, Bool.and_eq_true, Bool.or_eq_true, Bool.and_eq_false_iff, Bool.or_eq_false_iff, decide_not] <;> omega) | (simp only [*, Int.toNat_natCast, beq_self_eq_true, decide_eq_true_eq, decide_eq_false_iff_not, beq_iff_eq, bne_iff_ne, ne_eq, beq_eq_false_iff_ne, bne_eq_false_iff_eq, Bool.not_true, Bool.not_false, Bool.not_eq_true', Bool.not_eq_false', beq_true, beq_false, Bool.not_not, gt_iff_lt, ge_iff_le, Bool.and_eq_true, Bool.or_eq_true, Bool.and_eq_false_iff, Bool.or_eq_false_iff, decide_not]; done) | fail) ?_
    (repeat (first | with_reducible refine W.seq ?_ | with_reducible refine W.region ?_ | with_reducible refine W.skip ?_ | refine z_D (kk := ?_)))
    refine Ops.call rfl rfl rfl rfl rfl all_c (fun rv wE hR => ?_)
    obtain ⟨b90, rfl, hB90, hge, hlE⟩ := hR
    have hB90' : Blk wE b90 #[.slice Ac c.length cc] 71 := hB90
    skip
    refine Ops.call rfl rfl rfl rfl rfl (Collect_c hn7 (by omega) hB90') (fun ov w4 hR => ?_)
    obtain ⟨vs, hRS⟩ := hR
    have hb04 := Below.via (Below.via hb02 hlE) hRS.o.bel
    have hvl := hRS.len
    have hown : w4.ownsRow 0 23 1 ov (allL c.length).length vs := by
      have := hRS.o.own
      rw [hvl] at this
      simpa using this
    obtain ⟨Ao, co, rfl⟩ : ∃ Ao co, ov = .slice Ao (allL c.length).length co := by
      rcases hown.2 with ⟨e, h0⟩ | ⟨g, cap, cur, e, _⟩
      · omega
      · exact ⟨_, _, e⟩
    (repeat (first | with_reducible refine W.seq ?_ | with_reducible refine Ops.nil ?_ | with_reducible refine W.region ?_ | refine Ops.pu rfl rfl rfl ?_ | refine Ops.ar rfl rfl rfl (by omega) ?_ | refine Ops.len rfl rfl rfl rfl rfl ?_))
    refine Ops.callS rfl rfl rfl rfl rfl (within_c _ _ _ _) ?_
    by_cases hin : 0 ≤ k ∧ k < (allL c.length).length
    · have hir : inR k 0 ((allL c.length).length - 1) = true := by simp [inR]; omega
      rw [hir]
      have hb14 : Below w1.heap.size w1 w4 := Below.via (Below.via hb2 hlE) hRS.o.bel
      have B24 : Blk w4 b2 #[.slice Ac c.length cc] 22 := B2.kp (Kp.of_below (S := fun _ => False) hb14) (fun e => e)
      have hgeo : ∀ i, (Value.slice Ao (allL c.length).length co).ownBlock = some i → wE.heap.size ≤ i := hRS.o.ge
      have hbE := (Below.via hb2 hlE).size
      have hsort := sortF_c hC hown B24 (fun e => by have := hgeo _ e; omega) (fun W hk => hM.below (Below.put hb04 hk (fun i e => by have := hgeo _ e; have := hb.size; omega))) (fun q hq W hk => Sl.kp (own_sl (hRS.rows q hq)) hk (fun i hi e => (hRS.ge q hq i hi).2 e)) (by omega) hpos
      (repeat (first | with_reducible refine Ops.nil ?_ | refine Ops.pu rfl rfl rfl ?_))
      refine W.condF rfl (by first | rfl | assumption | (simp only [Int.toNat_natCast, beq_self_eq_true, decide_eq_true_eq, decide_eq_false_iff_not, beq_iff_eq, bne_iff_ne, ne_eq, beq_eq_false_iff_ne, bne_eq_false_iff_eq, Bool.not_true, Bool.not_false, Bool.not_eq_true', Bool.not_eq_false', beq_true, beq_false, Bool.not_not, gt_iff_lt, ge_iff_le, Bool.and_eq_true, Bool.or_eq_true, Bool.and_eq_false_iff, Bool.or_eq_false_iff, decide_not] <;> omega) | (simp only [*, Int.toNat_natCast, beq_self_eq_true, decide_eq_true_eq, decide_eq_false_iff_not, beq_iff_eq, bne_iff_ne, ne_eq, beq_eq_false_iff_ne, bne_eq_false_iff_eq, Bool.not_true, Bool.not_false, Bool.not_eq_true', Bool.not_eq_false', beq_true, beq_false, Bool.not_not, gt_iff_lt, ge_iff_le, Bool.and_eq_true, Bool.or_eq_true, Bool.and_eq_false_iff, Bool.or_eq_false_iff, decide_not]; done) | fail) ?_
      (repeat (first | with_reducible refine W.seq ?_ | with_reducible refine W.region ?_ | refine Ops.pu rfl rfl rfl ?_ | with_reducible refine W.skip ?_))
      refine Ops.call rfl rfl rfl rfl rfl hsort (fun r w5 hR => ?_)
      obtain ⟨rfl, hk5, vs', hown5, hrk⟩ := hR
      have hl5 : vs'.length = (allL c.length).length := by have := hown5.1; omega
      have hb05 : Below w.heap.size w w5 := Below.put hb04 hk5 (fun i e => by have := hgeo _ e; have := hb.size; omega)
      have hsl5 : Sl (fun v : Value => v) undef w5 (.slice Ao (allL c.length).length co) vs' := own_sl (e := 23) (by rw [hl5]; simpa using hown5)
      obtain ⟨p, hp, hpk, hpe⟩ := hrk k.toNat (by omega)
      have hsp : OI 3 (Value.int .i64) w w5 (vs.getD p undef) ((allL c.length).getD p []) := ⟨hb05, own_kp (hRS.rows p hp) hk5 (fun i hi e => (hRS.ge p hp i hi).2 e), fun i hi => by have := (hRS.ge p hp i hi).1; have := (Below.via hb02 hlE).size; omega⟩
      rw [← hpe] at hsp
      (repeat (first | with_reducible refine W.seq ?_ | with_reducible refine Ops.nil ?_ | with_reducible refine W.region ?_ | refine Ops.pu rfl rfl rfl ?_))
      refine Ops.rdS rfl rfl rfl rfl rfl rfl rfl rfl rfl rfl rfl hsl5 hin.1 (by omega) (fun q => ?_)
      (repeat (first | with_reducible refine Ops.nil ?_ | refine Ops.pu rfl rfl rfl ?_))
      exact W.fret rfl ⟨hb05, fun _ => ⟨_, p, rfl, hp, hpk, hsp⟩, fun h => absurd ⟨rfl, hin⟩ h⟩
    · have hir : inR k 0 ((allL c.length).length - 1) = false := by simp [inR]; omega
      rw [hir]
      (repeat (first | with_reducible refine Ops.nil ?_ | refine Ops.pu rfl rfl rfl ?_))
      refine W.condT rfl (by first | rfl | assumption | (simp only [Int.toNat_natCast, beq_self_eq_true, decide_eq_true_eq, decide_eq_false_iff_not, beq_iff_eq, bne_iff_ne, ne_eq, beq_eq_false_iff_ne, bne_eq_false_iff_eq, Bool.not_true, Bool.not_false, Bool.not_eq_true', Bool.not_eq_false', beq_true, beq_false, Bool.not_not, gt_iff_lt, ge_iff_le, Bool.and_eq_true, Bool.or_eq_true, Bool.and_eq_false_iff, Bool.or_eq_false_iff, decide_not] <;> omega) | (simp only [*, Int.toNat_natCast, beq_self_eq_true, decide_eq_true_eq, decide_eq_false_iff_not, beq_iff_eq, bne_iff_ne, ne_eq, beq_eq_false_iff_ne, bne_eq_false_iff_eq, Bool.not_true, Bool.not_false, Bool.not_eq_true', Bool.not_eq_false', beq_true, beq_false, Bool.not_not, gt_iff_lt, ge_iff_le, Bool.and_eq_true, Bool.or_eq_true, Bool.and_eq_false_iff, Bool.or_eq_false_iff, decide_not]; done) | fail) ?_
      (repeat (first | with_reducible refine W.seq ?_ | with_reducible refine Ops.nil ?_ | with_reducible refine W.region ?_ | refine Ops.pu rfl rfl rfl ?_))
      exact W.fret rfl ⟨hb04, fun h => absurd h.2 hin, fun _ => rfl⟩
end Go.Proofs.Ytehjmakiljhjdaa.O
namespace Go.Proofs.Ytehjmakiljhjdaa.O
open Go Go.RowKit Go.Proofs.Ytehjmakiljhjdaa.VW Go.Proofs.Ytehjmakiljhjdaa
attribute [local irreducible] W Ops OrdA VW.Ord OrdX
theorem Best_c {w : World} {cv : Value} {c : List (List Int)} (hM : RowsM w cv c) : Calls Try.prog 37 #[cv] w (Ret fun r w' => Below w.heap.size w w' ∧ (costsB c = false → r = .tuple #[.slice none 0 0, .slice none 0 0, .slice none 0 0, .int .i64 2]) ∧ (costsB c = true → ∃ av uv vv u v, r = .tuple #[av, uv, vv, .int .i64 0] ∧ OI 3 (Value.int .i64) w w' av (firstS c c.length 0) ∧ OI 3 (Value.int .i64) w w' uv u ∧ OI 3 (Value.int .i64) w w' vv v ∧ Prov c (firstS c c.length 0) u v ∧ (∀ i, av.ownBlock = some i → uv.ownBlock ≠ some i ∧ vv.ownBlock ≠ some i) ∧ ∀ i, uv.ownBlock = some i → vv.ownBlock ≠ some i)) := by
  obtain ⟨Ac, cc, rfl⟩ := hM.sl
  refine calls_W (vs := [_]) Try.func37 rfl (by kernel_rfl) rfl ?_
  (repeat (first | with_reducible refine W.seq ?_ | with_reducible refine Ops.nil ?_ | with_reducible refine W.region ?_ | refine z_p (kk := ?_)))
  refine Ops.call rfl rfl rfl rfl rfl (areCosts_c hM) (fun r w1 hR => ?_)
  obtain ⟨rfl, hb1⟩ := hR
  cases hc : costsB c with
  | false =>
    (repeat (first | with_reducible refine Ops.nil ?_ | refine z_p (kk := ?_)))
    refine W.condT rfl (by first | rfl | assumption | (simp only [bnf] <;> omega) | (simp only [*, bnf]; done) | fail) ?_
    (repeat (first | with_reducible refine W.seq ?_ | with_reducible refine Ops.nil ?_ | with_reducible refine W.region ?_ | refine z_p (kk := ?_)))
    exact W.fret rfl ⟨hb1, fun _ => rfl, fun h => (by cases h)⟩
  | true =>
    have hC := costs_iff.1 hc
    have hn7 := hC.n7
    have hn1 := hC.n1
    (repeat (first | with_reducible refine Ops.nil ?_ | refine z_p (kk := ?_)))
    refine W.condF rfl (by first | rfl | assumption | (simp only [bnf] <;> omega) | (simp only [*, bnf]; done) | fail) ?_
    (repeat (first | with_reducible refine W.seq ?_ | with_reducible refine W.region ?_ | refine z_p (kk := ?_) | with_reducible refine W.skip ?_))
    refine Ops.call rfl rfl rfl rfl rfl (proof_c (hM.below hb1) hC) (fun r w2 hR => ?_)
    obtain ⟨hb2, u, v, o, hPI, rfl⟩ := hR
    have hb02 := Below.via hb1 hb2
    skip
    refine Ops.alloc rfl rfl rfl rfl (fun w3 b hMk => ?_)
    have hb03 : Below w.heap.size w w3 := Below.put hb02 hMk.kp (fun _ e => e.elim)
    refine Ops.stN (vs := rng 16 fun j => .int .i64 (if j < 8 then u j else v (j - 8))) (cs := rng 16 fun _ => .int .i64 0) rfl rfl rfl rfl rfl rfl (by intro v hv; obtain ⟨j, _, rfl⟩ := List.mem_map.1 hv; rfl) rfl hMk.at_ (fun w4 hu4 => ?_)
    have hPV4 : PV w4 b u v := hu4.blk
    have hbw : w.heap.size ≤ b := by have := hMk.r_eq; have := hb02.size; omega
    have hb04 : Below w.heap.size w w4 := Below.put hb03 hu4.kp (fun i e => by omega)
    (repeat (first | with_reducible refine W.seq ?_ | with_reducible refine Ops.nil ?_ | with_reducible refine W.region ?_ | refine z_p (kk := ?_) | refine z_l (kk := ?_)))
    refine W.ord (hm := rfl) 9999 (fun _ => True) [(0, 1), (2, 1), (3, 1), (4, 1), (5, 1), (7, 1), (8, 1), (9, 1), (10, 1), (1, 0), (6, 0), (11, 0), (12, 1), (13, 1), (14, 1), (15, 1)] (by kernel_rfl) rfl (by kernel_rfl) (fun w5 k5 _ => ⟨trivial, ?_⟩)
    have hb45 : Below w4.heap.size w4 w5 := Kp.below k5 (Nat.le_refl _) (fun _ _ e => e)
    have hb05 := Below.via hb04 hb45
    have hPV5 : PV w5 b u v := hPV4.kp k5 (fun e => e)
    (repeat (first | refine y_p (kk := ?_) | refine y_a (kk := ?_) | refine y_P (kk := ?_)))
    refine VW.Ord.pure rfl rfl rfl rfl (fun _ _ _ h => h) (fun w => EV.slA (h := c.length + 1) rfl rfl rfl rfl rfl rfl (by omega) (by omega) (by omega)) ?_
    (repeat (first | refine y_p (kk := ?_) | refine y_a (kk := ?_) | refine y_P (kk := ?_)))
    refine VW.Ord.pure rfl rfl rfl rfl (fun _ _ _ h => h) (fun w => EV.slA (h := c.length + 1) rfl rfl rfl rfl rfl rfl (by omega) (by omega) (by omega)) ?_
    skip
    refine VW.Ord.effF rfl (Ops.call rfl rfl rfl rfl rfl (first_c (hM.below hb05) hC) (fun av w6 hA => Ops.nil (W.endl ⟨trivial, ?_⟩)))
    have hPV6 : PV w6 b u v := hPV5.kp (Kp.of_below (S := fun _ => False) hA.bel) (fun e => e)
    have hu6 : SlI w6 (.slice (some ((⟨b, 0 + 0, none⟩ : Addr).add 1)) (c.length + 1 - 1) 7) (pl c.length u) := part_sl (q := 0) (cap := 7) hPV6 hn7 (.inl rfl) (fun j _ => rfl)
    refine VW.Ord.effF rfl (Ops.call rfl rfl rfl rfl rfl (clone_c hu6 (by rw [pl_len]; omega)) (fun uv w7 hU => Ops.nil (W.endl ⟨trivial, ?_⟩)))
    have hPV7 : PV w7 b u v := hPV6.kp (Kp.of_below (S := fun _ => False) hU.bel) (fun e => e)
    have hv7 : SlI w7 (.slice (some ((⟨b, 0 + 8, none⟩ : Addr).add 1)) (c.length + 1 - 1) 7) (pl c.length v) := part_sl (q := 8) (cap := 7) hPV7 hn7 (.inr rfl) (fun j _ => rfl)
    refine VW.Ord.effF rfl (Ops.call rfl rfl rfl rfl rfl (clone_c hv7 (by rw [pl_len]; omega)) (fun vv w8 hV => Ops.nil (W.endl ⟨trivial, ?_⟩)))
    (repeat (first | refine y_p (kk := ?_)))
    refine VW.Ord.nil ?_
    have hb06 := Below.via hb05 hA.bel
    have hb07 := Below.via hb06 hU.bel
    have hb08 := Below.via hb07 hV.bel
    skip
    exact W.fret rfl ⟨hb08, fun h => (by cases h), fun _ => ⟨av, uv, vv, _, _, rfl, ((hA.up hb05).below hU.bel).below hV.bel, (hU.up hb06).below hV.bel, hV.up hb07, prov_PI hC hPI, fun i hi => ⟨fun e => by have := (hA.own.lt i hi).2; have := hU.ge i e; omega, fun e => by have := (hA.own.lt i hi).2; have := hV.ge i e; have := hU.bel.size; omega⟩, fun i hi e => by have := (hU.own.lt i hi).2; have := hV.ge i e; omega⟩⟩
theorem RW.app {w0 w w' : World} {ov ov' : Value} {cvs vs : List Value} {n : Nat} {T : Nat → List Int} {xs : List (List Int)} (h : RW w0 w ov cvs n T)
    (hr : ∀ j, j < vs.length → OI 3 (Value.int .i64) w0 w (vs.getD j undef) (xs.getD j []))
    (ha : ∀ j, j < vs.length → ∀ b, (vs.getD j undef).ownBlock = some b → ov.ownBlock ≠ some b ∧ (∀ q, q < n → (cvs.getD q undef).ownBlock ≠ some b) ∧ ∀ q, q < vs.length → q ≠ j → (vs.getD q undef).ownBlock ≠ some b)
    (hO : OI 23 (fun v : Value => v) w0 w' ov' (cvs ++ vs)) (k : Kp (fun i => ov.ownBlock = some i) w w') (hn : ∀ i, ov'.ownBlock = some i → ov.ownBlock = some i ∨ w.heap.size ≤ i) :
    RW w0 w' ov' (cvs ++ vs) (n + vs.length) (fun q => if q < n then T q else xs.getD (q - n) []) := by
  have hl := h.len
  have g1 : ∀ j, j < n → (cvs ++ vs).getD j undef = cvs.getD j undef := fun j hj => by simp [List.getD_eq_getElem?_getD, List.getElem?_append_left (show j < cvs.length by omega)]
  have g2 : ∀ j, ¬ j < n → (cvs ++ vs).getD j undef = vs.getD (j - n) undef := fun j hj => by
    simp only [List.getD_eq_getElem?_getD]
    rw [List.getElem?_append_right (by omega), hl]
  refine ⟨hO, by simp [hl], fun j hj => ?_, fun j hj b e => ?_⟩
  · by_cases ej : j < n
    · rw [g1 j ej, if_pos ej]
      exact (h.rows j ej).kp k (fun i hi => ⟨h.o.ge i hi, fun e2 => (h.apart j ej i e2).1 hi⟩)
    · rw [g2 j ej, if_neg ej]
      exact (hr (j - n) (by omega)).kp k (fun i hi => ⟨h.o.ge i hi, fun e2 => (ha (j - n) (by omega) i e2).1 hi⟩)
  · by_cases ej : j < n
    · rw [g1 j ej] at e
      have hlt := ((h.rows j ej).own.lt b e).2
      refine ⟨fun e2 => ?_, fun q hq hne e2 => ?_⟩
      · rcases hn b e2 with e3 | e3
        · exact (h.apart j ej b e).1 e3
        · omega
      · by_cases eq : q < n
        · rw [g1 q eq] at e2
          exact (h.apart j ej b e).2 q eq hne e2
        · rw [g2 q eq] at e2
          exact (ha (q - n) (by omega) b e2).2.1 j ej e
    · rw [g2 j ej] at e
      have hlt := ((hr (j - n) (by omega)).own.lt b e).2
      have hh := ha (j - n) (by omega) b e
      refine ⟨fun e2 => ?_, fun q hq hne e2 => ?_⟩
      · rcases hn b e2 with e3 | e3
        · exact hh.1 e3
        · omega
      · by_cases eq : q < n
        · rw [g1 q eq] at e2
          exact hh.2.1 q eq e2
        · rw [g2 q eq] at e2
          exact hh.2.2 (q - n) (by omega) (by omega) e2
theorem RW.kpb {w0 w w' : World} {ov : Value} {cvs : List Value} {n : Nat} {T : Nat → List Int} (h : RW w0 w ov cvs n T) (k : Below w.heap.size w w') : RW w0 w' ov cvs n T := VW.RW.below h k
theorem oi_val {w0 w : World} {v : Value} {us : List {v : Value // v.oneCell' = true}} {vs : List Value} (he : us.map Subtype.val = vs) : OI 23 Subtype.val w0 w v us ↔ OI 23 (fun v : Value => v) w0 w v vs := by
  subst he
  constructor
  · intro h; exact ⟨h.bel, by have := h.own; simpa using this, h.ge⟩
  · intro h; exact ⟨h.bel, by have := h.own; simpa using this, h.ge⟩
theorem val_ex : ∀ vs : List Value, (∀ v, v ∈ vs → v.oneCell' = true) → ∃ us : List {v : Value // v.oneCell' = true}, us.map Subtype.val = vs
  | [], _ => ⟨[], rfl⟩
  | v :: r, h => by
    obtain ⟨us, e⟩ := val_ex r (fun x hx => h x (List.mem_cons_of_mem _ hx))
    exact ⟨⟨v, h v (List.mem_cons_self ..)⟩ :: us, by simp [e]⟩
end Go.Proofs.Ytehjmakiljhjdaa.O
namespace Go.Proofs.Ytehjmakiljhjdaa.O
open Go Go.RowKit Go.Proofs.Ytehjmakiljhjdaa.VW Go.Proofs.Ytehjmakiljhjdaa
attribute [local irreducible] W Ops OrdA VW.Ord OrdX
theorem own_len3 {w0 w : World} {v : Value} {xs : List Int} (h : OI 3 (Value.int .i64) w0 w v xs) : xs.length ≤ 9223372036854775807 := Sl.len (h.sl (z := (0 : Int)))
set_option maxHeartbeats 8000000 in
set_option maxRecDepth 20000 in
theorem ownLaw_c {w : World} {mv lv : Value} {n : Int} {l : List (List Int)} {by_ : List Int} (hm : ArgR w mv l) (hl : Arg w lv by_) :
    Calls Try.prog 15 #[.int .i64 n, mv, lv] w (Ret fun r w' => r = .bool true ∧ Below w.heap.size w w') := by
  refine calls_W (vs := [_, _, _]) Try.func15 rfl (by kernel_rfl) rfl ?_
  (repeat (first | with_reducible refine W.seq ?_ | with_reducible refine Ops.nil ?_ | with_reducible refine W.region ?_ | refine Ops.pu rfl rfl rfl ?_))
  refine Ops.callS rfl rfl rfl rfl rfl (mod_c _ _ _ (by omega) (by omega)) ?_
  have hmb := modI_bd n (n := 5) (by omega)
  obtain ⟨n0, hn0⟩ := Int.eq_ofNat_of_zero_le hmb.1
  rw [hn0] at hmb ⊢
  (repeat (first | with_reducible refine W.seq ?_ | with_reducible refine Ops.nil ?_ | with_reducible refine W.region ?_ | refine Ops.pu rfl rfl rfl ?_ | refine Ops.ar rfl rfl rfl (by omega) ?_))
  rw [show (1 : Int) + ((n0 : Nat) : Int) = ((n0 + 1 : Nat) : Int) by omega]
  refine Ops.call rfl rfl rfl rfl rfl (tame_c hm.1 (n := n0 + 1) (by omega) (by omega) (by omega)) (fun tv w2 hR => ?_)
  obtain ⟨cvs, hR⟩ := hR
  have hb2 := hR.o.bel
  have hA2 := hR.argR
  change ArgR w2 tv (tmC l (n0 + 1) 1000) at hA2
  have hC := tmC_cst l (n := n0 + 1) (most := 1000) (by omega) (by omega) (by omega) (by omega)
  have hcl := tmC_len l (n0 + 1) 1000
  generalize tmC l (n0 + 1) 1000 = c at *
  clear hR
  have hcB : costsB c = true := costs_iff.2 hC
  have hn7 := hC.n7
  have hM2 := hA2.1
  obtain ⟨Ac, cc, rfl⟩ := hM2.sl
  (repeat (first | with_reducible refine W.seq ?_ | with_reducible refine Ops.nil ?_ | with_reducible refine W.region ?_ | refine Ops.pu rfl rfl rfl ?_))
  refine Ops.call rfl rfl rfl rfl rfl (order_c (Sl.below hl.1 hb2) (n := n0 + 1) (by omega)) (fun av w3 hO => ?_)
  have hb3 := hO.bel
  have hAo := ordL_asg by_ (n0 + 1)
  generalize ordL by_ (n0 + 1) = o at *
  rw [← hcl] at hAo
  have hal := hAo.1
  have hb03 := Below.via hb2 hb3
  have hA3 : ArgR w3 (.slice Ac c.length cc) c := ⟨hM2.below hb3, fun i i0 i1 => by
    obtain ⟨a, k, A', k', e1, e2, e3, e4⟩ := hA2.2 i i0 i1
    exact ⟨a, k, A', k', e1, Sl.below e2 hb3, e3, fun w' hw => e4 w' (Below.via hb3 hw)⟩⟩
  have aO3 := oi_arg hO
  clear hO hA2
  obtain ⟨Ao, co, rfl⟩ := Sl.shape aO3.1
  (repeat (first | with_reducible refine W.seq ?_ | with_reducible refine Ops.nil ?_ | with_reducible refine W.region ?_ | refine Ops.pu rfl rfl rfl ?_))
  refine Ops.call rfl rfl rfl rfl rfl (table_w hA3 hC) (fun dv w4 hR => ?_)
  obtain ⟨dvs, hD4⟩ := hR
  have hb4 := hD4.o.bel
  have hT4 := hD4.rowsM
  rw [show (List.range c.length).map (fun q => c.getD q []) = c from List.ext_getElem (by simp) fun i h1 h2 => by simp [List.getD_eq_getElem?_getD, h2]] at hT4
  clear hD4
  obtain ⟨Ad, cd, rfl⟩ := hT4.sl
  (repeat (first | refine Ops.pu rfl rfl rfl ?_))
  refine Ops.call rfl rfl rfl rfl rfl (list_c (aO3.below hb4)) (fun ev w5 hR => ?_)
  have hb5 := hR.bel
  have hE5 := hR.sl (z := (0 : Int))
  rw [List.take_of_length_le (by omega)] at hE5
  clear hR
  have hM5 := (hA3.1.below hb4).below hb5
  have hT5 := hT4.below hb5
  have aO5 := (aO3.below hb4).below hb5
  have hb05 := Below.via hb03 (Below.via hb4 hb5)
  clear hA3 hT4 aO3 hM2
  (repeat (first | with_reducible refine W.seq ?_ | with_reducible refine Ops.nil ?_ | with_reducible refine W.region ?_ | refine Ops.pu rfl rfl rfl ?_))
  refine Ops.call rfl rfl rfl rfl rfl (Best_c hM5) (fun r w6 hR => ?_)
  obtain ⟨hb6, -, hR⟩ := hR
  obtain ⟨v1, v2, v3, x2, x3, rfl, h1, h2, h3, hPr, hap1, hap2⟩ := hR hcB
  have hM6 := hM5.below hb6
  (repeat (first | with_reducible refine W.seq ?_ | with_reducible refine Ops.nil ?_ | with_reducible refine W.region ?_ | refine Ops.pu rfl rfl rfl ?_))
  refine Ops.call rfl rfl rfl rfl rfl (Slack_c hM6) (fun r w7 hR => ?_)
  obtain ⟨sv, svs, rfl, hS7⟩ := hR.2 hcB
  clear hR
  have hb7 := hS7.o.bel
  have hM7 := hM6.below hb7
  (repeat (first | with_reducible refine W.seq ?_ | with_reducible refine Ops.nil ?_ | with_reducible refine W.region ?_ | refine Ops.pu rfl rfl rfl ?_))
  have hpos := allL_pos (n := c.length)
  refine Ops.call rfl rfl rfl rfl rfl (O.Item_c (k := 0) hM7) (fun r w8 hR => ?_)
  obtain ⟨hb8, hyes, -⟩ := hR
  obtain ⟨v4, p4, rfl, -, -, h4⟩ := hyes ⟨hcB, by omega, by omega⟩
  clear hyes
  have hM8 := hM7.below hb8
  have hb58 := Below.via hb6 (Below.via hb7 hb8)
  have aO8 := aO5.below hb58
  (repeat (first | with_reducible refine W.seq ?_ | with_reducible refine Ops.nil ?_ | with_reducible refine W.region ?_ | refine Ops.pu rfl rfl rfl ?_))
  refine Ops.call rfl rfl rfl rfl rfl (Total_c hM8 aO8) (fun r w9 hR => ?_)
  obtain ⟨-, hb9⟩ := hR
  have hM9 := hM8.below hb9
  have aO9 := aO8.below hb9
  (repeat (first | with_reducible refine W.seq ?_ | with_reducible refine Ops.nil ?_ | with_reducible refine W.region ?_ | refine Ops.pu rfl rfl rfl ?_))
  refine Ops.call rfl rfl rfl rfl rfl (Index_c hM9 aO9) (fun r w10 hR => ?_)
  obtain ⟨-, hb10⟩ := hR
  have hM10 := hM9.below hb10
  have aO10 := aO9.below hb10
  (repeat (first | with_reducible refine W.seq ?_ | with_reducible refine Ops.nil ?_ | with_reducible refine W.region ?_ | refine Ops.pu rfl rfl rfl ?_))
  refine Ops.call rfl rfl rfl rfl rfl (IsBlock_c hM10 aO10.1) (fun r w11 hR => ?_)
  obtain ⟨-, hb11⟩ := hR
  have hM11 := hM10.below hb11
  have aO11 := aO10.below hb11
  have hb811 := Below.via hb9 (Below.via hb10 hb11)
  have hb611 := Below.via (Below.via hb7 hb8) hb811
  (repeat (first | with_reducible refine W.seq ?_ | with_reducible refine Ops.nil ?_ | with_reducible refine W.region ?_ | refine Ops.pu rfl rfl rfl ?_))
  refine Ops.call rfl rfl rfl rfl rfl (Check_c hM11 aO11 (Sl.below (h2.sl (z := (0 : Int))) hb611) (Sl.below (h3.sl (z := (0 : Int))) hb611)) (fun r w12 hR => ?_)
  obtain ⟨-, hb12⟩ := hR
  have hM12 := hM11.below hb12
  have aO12 := aO11.below hb12
  have hb812 := Below.via hb811 hb12
  have hb512 := Below.via hb58 hb812
  (repeat (first | with_reducible refine W.seq ?_ | with_reducible refine Ops.nil ?_ | with_reducible refine W.region ?_ | refine Ops.pu rfl rfl rfl ?_ | refine Ops.yes rfl rfl rfl ?_))
  refine Ops.call rfl rfl rfl rfl rfl (tables_c hM12 (hT5.below hb512)) (fun r w13 hR => ?_)
  obtain ⟨rfl, hb13⟩ := hR
  rw [decide_eq_true rfl]
  (repeat (first | refine Ops.pu rfl rfl rfl ?_ | refine Ops.yes rfl rfl rfl ?_))
  refine Ops.call rfl rfl rfl rfl rfl (ints_c (Sl.below aO12.1 hb13) (Sl.below hE5 (Below.via hb512 hb13))) (fun r w14 hR => ?_)
  obtain ⟨rfl, hb14⟩ := hR
  rw [decide_eq_true rfl]
  have hb814 := Below.via hb812 (Below.via hb13 hb14)
  have hb714 := Below.via hb8 hb814
  have hb614 := Below.via hb7 hb714
  have hb514 := Below.via hb6 hb614
  have hM14 := hM5.below hb514
  have hT14 := hT5.below hb514
  have H1 := h1.below hb614
  have H2 := h2.below hb614
  have H3 := h3.below hb614
  have H4 := (h4.below hb814).up (Below.via hb6 hb7)
  have HS := (hS7.below hb714).up hb6
  have L1 : ∀ b, v1.ownBlock = some b → b < w6.heap.size := fun b e => (h1.own.lt b e).2
  have L2 : ∀ b, v2.ownBlock = some b → b < w6.heap.size := fun b e => (h2.own.lt b e).2
  have L3 : ∀ b, v3.ownBlock = some b → b < w6.heap.size := fun b e => (h3.own.lt b e).2
  have S0 : ∀ b, sv.ownBlock = some b → w6.heap.size ≤ b ∧ b < w7.heap.size := fun b e => ⟨hS7.o.ge b e, (hS7.o.own.lt b e).2⟩
  have S1 : ∀ q, q < c.length → ∀ b, (svs.getD q undef).ownBlock = some b → w6.heap.size ≤ b ∧ b < w7.heap.size := fun q hq b e => ⟨(hS7.rows q hq).ge b e, ((hS7.rows q hq).own.lt b e).2⟩
  have G4 : ∀ b, v4.ownBlock = some b → w7.heap.size ≤ b := fun b e => h4.ge b e
  clear h1 h2 h3 h4 hS7 hPr
  have hsz7 := hb7.size
  have hsl := HS.len
  have hha : ∀ j, j < [v1, v2, v3, v4].length → ∀ b, ([v1, v2, v3, v4].getD j undef).ownBlock = some b → sv.ownBlock ≠ some b ∧ (∀ q, q < c.length → (svs.getD q undef).ownBlock ≠ some b) ∧ ∀ q, q < [v1, v2, v3, v4].length → q ≠ j → ([v1, v2, v3, v4].getD q undef).ownBlock ≠ some b := by
    intro j hj b e
    match j, hj, e with
    | 0, _, e =>
      have k1 := L1 b e
      refine ⟨fun e2 => by have := S0 b e2; omega, fun q hq e2 => by have := S1 q hq b e2; omega, fun q hq hne e2 => ?_⟩
      match q, hq, hne, e2 with
      | 0, _, hne, e2 => exact hne rfl
      | 1, _, hne, e2 => exact (hap1 b e).1 e2
      | 2, _, hne, e2 => exact (hap1 b e).2 e2
      | 3, _, hne, e2 => have := G4 b e2; omega
    | 1, _, e =>
      have k1 := L2 b e
      refine ⟨fun e2 => by have := S0 b e2; omega, fun q hq e2 => by have := S1 q hq b e2; omega, fun q hq hne e2 => ?_⟩
      match q, hq, hne, e2 with
      | 0, _, hne, e2 => exact (hap1 b e2).1 e
      | 1, _, hne, e2 => exact hne rfl
      | 2, _, hne, e2 => exact hap2 b e e2
      | 3, _, hne, e2 => have := G4 b e2; omega
    | 2, _, e =>
      have k1 := L3 b e
      refine ⟨fun e2 => by have := S0 b e2; omega, fun q hq e2 => by have := S1 q hq b e2; omega, fun q hq hne e2 => ?_⟩
      match q, hq, hne, e2 with
      | 0, _, hne, e2 => exact (hap1 b e2).2 e
      | 1, _, hne, e2 => exact hap2 b e2 e
      | 2, _, hne, e2 => exact hne rfl
      | 3, _, hne, e2 => have := G4 b e2; omega
    | 3, _, e =>
      have k1 := G4 b e
      refine ⟨fun e2 => by have := S0 b e2; omega, fun q hq e2 => by have := S1 q hq b e2; omega, fun q hq hne e2 => ?_⟩
      match q, hq, hne, e2 with
      | 0, _, hne, e2 => have := L1 b e2; omega
      | 1, _, hne, e2 => have := L2 b e2; omega
      | 2, _, hne, e2 => have := L3 b e2; omega
      | 3, _, hne, e2 => exact hne rfl
  have hhr : ∀ j, j < [v1, v2, v3, v4].length → OI 3 (Value.int .i64) w5 w14 ([v1, v2, v3, v4].getD j undef) ([firstS c c.length 0, x2, x3, (allL c.length).getD p4 []].getD j []) := by
    intro j hj
    match j, hj with
    | 0, _ => exact H1
    | 1, _ => exact H2
    | 2, _ => exact H3
    | 3, _ => exact H4
  clear L1 L2 L3 S0 S1 G4 hap1 hap2
  obtain ⟨us, hus⟩ := val_ex svs (fun v hv => by
    obtain ⟨j, hj, rfl⟩ := List.getElem_of_mem hv
    obtain ⟨A, m, e⟩ := (HS.rows j (by omega)).sh
    have e2 : svs.getD j undef = svs[j] := by simp [List.getD_eq_getElem?_getD, hj]
    rw [← e2, e]
    rfl)
  have hO0 := (oi_val hus).2 HS.o
  obtain ⟨A1, c1, rfl⟩ := H1.sh
  obtain ⟨A2, c2, rfl⟩ := H2.sh
  obtain ⟨A3, c3, rfl⟩ := H3.sh
  obtain ⟨A4, c4, rfl⟩ := H4.sh
  (repeat (first | with_reducible refine Ops.nil ?_ | refine Ops.pu rfl rfl rfl ?_ | refine Ops.yes rfl rfl rfl ?_))
  refine W.condF rfl (by first | rfl | assumption | (simp only [Int.toNat_natCast, beq_self_eq_true, decide_eq_true_eq, decide_eq_false_iff_not, beq_iff_eq, bne_iff_ne, ne_eq, beq_eq_false_iff_ne, bne_eq_false_iff_eq, Bool.not_true, Bool.not_false, Bool.not_eq_true', Bool.not_eq_false', beq_true, beq_false, Bool.not_not, gt_iff_lt, ge_iff_le, Bool.and_eq_true, Bool.or_eq_true, Bool.and_eq_false_iff, Bool.or_eq_false_iff, decide_not] <;> omega) | (simp only [*, Int.toNat_natCast, beq_self_eq_true, decide_eq_true_eq, decide_eq_false_iff_not, beq_iff_eq, bne_iff_ne, ne_eq, beq_eq_false_iff_ne, bne_eq_false_iff_eq, Bool.not_true, Bool.not_false, Bool.not_eq_true', Bool.not_eq_false', beq_true, beq_false, Bool.not_not, gt_iff_lt, ge_iff_le, Bool.and_eq_true, Bool.or_eq_true, Bool.and_eq_false_iff, Bool.or_eq_false_iff, decide_not]; done) | fail) ?_
  (repeat (first | with_reducible refine W.seq ?_ | with_reducible refine W.region ?_ | refine Ops.pu rfl rfl rfl ?_ | with_reducible refine W.skip ?_))
  refine Ops.bsG (cs := #[.slice A1 (firstS c c.length 0).length c1, .slice A2 x2.length c2, .slice A3 x3.length c3, .slice A4 ((allL c.length).getD p4 []).length c4]) rfl rfl rfl rfl rfl rfl rfl rfl rfl (by simp [Instr.fill, Value.cells, show Array.range 4 = #[0, 1, 2, 3] from rfl]) (fun w15 rb hMb => ?_)
  have hb1415 := Mk.bel hMb
  have hrb := hMb.r_eq
  have hb514s := hb514.size
  have hus4 : ([⟨.slice A1 (firstS c c.length 0).length c1, rfl⟩, ⟨.slice A2 x2.length c2, rfl⟩, ⟨.slice A3 x3.length c3, rfl⟩, ⟨.slice A4 ((allL c.length).getD p4 []).length c4, rfl⟩] : List {v : Value // v.oneCell' = true}).map Subtype.val = [.slice A1 (firstS c c.length 0).length c1, .slice A2 x2.length c2, .slice A3 x3.length c3, .slice A4 ((allL c.length).getD p4 []).length c4] := rfl
  have hown4 : w15.ownsRow 0 23 1 (.slice (some ⟨rb, 0, none⟩) 4 4) 4 [.slice A1 (firstS c c.length 0).length c1, .slice A2 x2.length c2, .slice A3 x3.length c3, .slice A4 ((allL c.length).getD p4 []).length c4] := ⟨rfl, .inr ⟨rb, 4, _, rfl, Nat.zero_le _, hMb.at_, Nat.le_refl _, by decide, rfl, rfl⟩⟩
  have hO4 : OI 23 (fun v : Value => v) w5 w15 (.slice (some ⟨rb, 0, none⟩) 4 4) [.slice A1 (firstS c c.length 0).length c1, .slice A2 x2.length c2, .slice A3 x3.length c3, .slice A4 ((allL c.length).getD p4 []).length c4] := ⟨Below.via hb514 hb1415, hown4, fun k hk => by simp [Value.ownBlock] at hk; omega⟩
  have hS15 : Sl (Subtype.val : {v : Value // v.oneCell' = true} → Value) ⟨.slice none 0 0, rfl⟩ w15 sv us := (hO0.below hb1415).sl
  have hO415 := (oi_val hus4).2 hO4
  have hul : us.length = c.length := by have := congrArg List.length hus; simpa [hsl] using this
  (repeat (first | refine Ops.pu rfl rfl rfl ?_))
  refine Ops.appO (enc := (Subtype.val : {v : Value // v.oneCell' = true} → Value)) (w1 := w15) ⟨.slice none 0 0, rfl⟩ rfl rfl rfl rfl rfl rfl rfl rfl rfl rfl hO415 hS15 (Below.refl _ _) (fun u => u.2) (by rw [hul]; simp only [List.length_cons, List.length_nil]; omega) (fun ov w16 hO16 k16 hn16 => ?_)
  have hO16' := (oi_val (vs := [.slice A1 (firstS c c.length 0).length c1, .slice A2 x2.length c2, .slice A3 x3.length c3, .slice A4 ((allL c.length).getD p4 []).length c4] ++ svs) (by rw [List.map_append, hus, hus4])).1 hO16
  have hR4 : RW w5 w15 (.slice (some ⟨rb, 0, none⟩) 4 4) [.slice A1 (firstS c c.length 0).length c1, .slice A2 x2.length c2, .slice A3 x3.length c3, .slice A4 ((allL c.length).getD p4 []).length c4] 4 (fun q => [firstS c c.length 0, x2, x3, (allL c.length).getD p4 []].getD q []) := ⟨hO4, rfl, fun j hj => (hhr j hj).below hb1415, fun j hj b e => ⟨fun e2 => by
    have h1 := ((hhr j hj).own.lt b e).2
    simp [Value.ownBlock] at e2
    omega, (hha j hj b e).2.2⟩⟩
  have HS15 := HS.below hb1415
  have hRW := RW.app hR4 (vs := svs) (xs := slackS c) (fun j hj => by
      have hj' : j < c.length := by omega
      have := HS15.rows j hj'
      rwa [show (slackS c).getD j [] = slRow c j c.length by simp [slackS, List.getD_eq_getElem?_getD, hj']]) (fun j hj b e => ⟨fun e2 => by
      have h1 := ((HS.rows j (by omega)).own.lt b e).2
      simp [Value.ownBlock] at e2
      omega, fun q hq e2 => (hha q hq b e2).2.1 j (by omega) e, fun q hq hne => (HS.apart j (by omega) b e).2 q (by omega) hne⟩) hO16' k16 hn16
  rw [hsl] at hRW
  clear hR4 HS15 hO16 hO16' k16 hn16 hO415 hS15 hO4 hown4 hO0 hhr hha HS hus hus4
  generalize ([.slice A1 (firstS c c.length 0).length c1, .slice A2 x2.length c2, .slice A3 x3.length c3, .slice A4 ((allL c.length).getD p4 []).length c4] ++ svs : List Value) = rvs at hRW
  generalize (fun q => if q < 4 then [firstS c c.length 0, x2, x3, (allL c.length).getD p4 []].getD q [] else (slackS c).getD (q - 4) []) = T0 at hRW
  obtain ⟨Ar, cr, rfl⟩ := hRW.o.sh
  have hrl := hRW.len
  rw [hrl] at hRW ⊢
  have hT16 := hT14.below hb1415
  (repeat (first | with_reducible refine W.seq ?_ | with_reducible refine Ops.nil ?_ | with_reducible refine W.region ?_ | refine Ops.pu rfl rfl rfl ?_ | with_reducible refine W.block ?_))
  refine W.loop (fun m ρ w17 => ∃ (i : Nat) (T : Nat → List Int), m = 4 + c.length - i ∧ i ≤ 4 + c.length ∧ ρ = [(7, .slice Ac c.length cc), (9, .slice Ad c.length cd), (19, .slice Ar (4 + c.length) cr), (20, .int .i64 i)] ∧ RW w5 w17 (.slice Ar (4 + c.length) cr) rvs (4 + c.length) T)
    ⟨_, _, ⟨0, T0, rfl, Nat.zero_le _, rfl, hRW⟩, (by repeat (first | exact trivial | refine And.intro rfl ?_))⟩ ?_
  clear hRW
  rintro m ρ w17 ⟨i, T, rfl, hi, rfl, hD⟩
  have hb17 := hD.o.bel
  by_cases hil : i < 4 + c.length
  · (repeat (first | with_reducible refine W.seq ?_ | with_reducible refine Ops.nil ?_ | with_reducible refine W.region ?_ | refine Ops.pu rfl rfl rfl ?_ | refine Ops.len rfl rfl rfl rfl rfl ?_))
    refine W.condT rfl (by first | rfl | assumption | (simp only [Int.toNat_natCast, beq_self_eq_true, decide_eq_true_eq, decide_eq_false_iff_not, beq_iff_eq, bne_iff_ne, ne_eq, beq_eq_false_iff_ne, bne_eq_false_iff_eq, Bool.not_true, Bool.not_false, Bool.not_eq_true', Bool.not_eq_false', beq_true, beq_false, Bool.not_not, gt_iff_lt, ge_iff_le, Bool.and_eq_true, Bool.or_eq_true, Bool.and_eq_false_iff, Bool.or_eq_false_iff, decide_not] <;> omega) | (simp only [*, Int.toNat_natCast, beq_self_eq_true, decide_eq_true_eq, decide_eq_false_iff_not, beq_iff_eq, bne_iff_ne, ne_eq, beq_eq_false_iff_ne, bne_eq_false_iff_eq, Bool.not_true, Bool.not_false, Bool.not_eq_true', Bool.not_eq_false', beq_true, beq_false, Bool.not_not, gt_iff_lt, ge_iff_le, Bool.and_eq_true, Bool.or_eq_true, Bool.and_eq_false_iff, Bool.or_eq_false_iff, decide_not]; done) | fail) ?_
    (repeat (first | with_reducible refine W.seq ?_ | with_reducible refine Ops.nil ?_ | with_reducible refine W.region ?_ | refine Ops.pu rfl rfl rfl ?_ | with_reducible refine W.skip ?_ | with_reducible refine W.block ?_))
    refine W.loop (fun m ρ w18 => ∃ (j : Nat) (T2 : Nat → List Int), m = (T2 i).length - j ∧ j ≤ (T2 i).length ∧ ρ = [(7, .slice Ac c.length cc), (9, .slice Ad c.length cd), (19, .slice Ar (4 + c.length) cr), (20, .int .i64 i), (21, .int .i64 j)] ∧ RW w5 w18 (.slice Ar (4 + c.length) cr) rvs (4 + c.length) T2)
      ⟨_, _, ⟨0, T, rfl, Nat.zero_le _, rfl, hD⟩, (by repeat (first | exact trivial | refine And.intro rfl ?_))⟩ ?_
    clear hD hb17
    rintro m ρ w18 ⟨j, T2, rfl, hj, rfl, hD⟩
    have hb18 := hD.o.bel
    have hri := hD.rows i hil
    obtain ⟨Ai, ci, ei⟩ := hri.sh
    have hTl := own_len3 hri
    (repeat (first | with_reducible refine W.seq ?_ | with_reducible refine W.region ?_ | refine Ops.pu rfl rfl rfl ?_))
    refine Ops.rdBn (enc := fun v : Value => v) (z := undef) rfl rfl rfl rfl rfl rfl (fun _ => rfl) rfl rfl rfl rfl rfl rfl hD.o.sl (Below.refl _ _) (by omega) (fun _ => ?_)
    rw [ei] at hri ⊢
    (repeat (first | with_reducible refine Ops.nil ?_ | refine Ops.pu rfl rfl rfl ?_ | refine Ops.len rfl rfl rfl rfl rfl ?_))
    by_cases hjl : j < (T2 i).length
    · refine W.condT rfl (by first | rfl | assumption | (simp only [Int.toNat_natCast, beq_self_eq_true, decide_eq_true_eq, decide_eq_false_iff_not, beq_iff_eq, bne_iff_ne, ne_eq, beq_eq_false_iff_ne, bne_eq_false_iff_eq, Bool.not_true, Bool.not_false, Bool.not_eq_true', Bool.not_eq_false', beq_true, beq_false, Bool.not_not, gt_iff_lt, ge_iff_le, Bool.and_eq_true, Bool.or_eq_true, Bool.and_eq_false_iff, Bool.or_eq_false_iff, decide_not] <;> omega) | (simp only [*, Int.toNat_natCast, beq_self_eq_true, decide_eq_true_eq, decide_eq_false_iff_not, beq_iff_eq, bne_iff_ne, ne_eq, beq_eq_false_iff_ne, bne_eq_false_iff_eq, Bool.not_true, Bool.not_false, Bool.not_eq_true', Bool.not_eq_false', beq_true, beq_false, Bool.not_not, gt_iff_lt, ge_iff_le, Bool.and_eq_true, Bool.or_eq_true, Bool.and_eq_false_iff, Bool.or_eq_false_iff, decide_not]; done) | fail) ?_
      (repeat (first | with_reducible refine W.seq ?_ | with_reducible refine W.region ?_ | refine Ops.pu rfl rfl rfl ?_ | with_reducible refine W.skip ?_ | with_reducible refine W.block ?_))
      refine Ops.rdBn (enc := fun v : Value => v) (z := undef) rfl rfl rfl rfl rfl rfl (fun _ => rfl) rfl rfl rfl rfl rfl rfl hD.o.sl (Below.refl _ _) (by omega) (fun _ => ?_)
      rw [ei]
      (repeat (first | refine Ops.pu rfl rfl rfl ?_))
      refine Ops.wrO (enc := Value.int .i64) (u := -7) rfl rfl rfl rfl rfl rfl rfl rfl rfl rfl rfl rfl (by simp) rfl hri hjl (fun w19 _ hO9 k9 hs9 => ?_)
      rw [← ei] at hO9 k9
      have hD9 := hD.wrow hil hO9 k9
      (repeat (first | with_reducible refine Ops.nil ?_ | with_reducible refine W.region ?_ | refine Ops.pu rfl rfl rfl ?_ | refine Ops.ar rfl rfl rfl (by omega) ?_ | with_reducible refine W.endb ?_))
      refine W.endl ⟨_, _, ⟨⟨j + 1, _, rfl, ?_, rfl, hD9⟩, ?_⟩, (by repeat (first | exact trivial | refine And.intro rfl ?_))⟩
      · simp only [if_true, List.length_set]; omega
      · simp only [if_true, List.length_set]; omega
    · refine W.condF rfl (by first | rfl | assumption | (simp only [Int.toNat_natCast, beq_self_eq_true, decide_eq_true_eq, decide_eq_false_iff_not, beq_iff_eq, bne_iff_ne, ne_eq, beq_eq_false_iff_ne, bne_eq_false_iff_eq, Bool.not_true, Bool.not_false, Bool.not_eq_true', Bool.not_eq_false', beq_true, beq_false, Bool.not_not, gt_iff_lt, ge_iff_le, Bool.and_eq_true, Bool.or_eq_true, Bool.and_eq_false_iff, Bool.or_eq_false_iff, decide_not] <;> omega) | (simp only [*, Int.toNat_natCast, beq_self_eq_true, decide_eq_true_eq, decide_eq_false_iff_not, beq_iff_eq, bne_iff_ne, ne_eq, beq_eq_false_iff_ne, bne_eq_false_iff_eq, Bool.not_true, Bool.not_false, Bool.not_eq_true', Bool.not_eq_false', beq_true, beq_false, Bool.not_not, gt_iff_lt, ge_iff_le, Bool.and_eq_true, Bool.or_eq_true, Bool.and_eq_false_iff, Bool.or_eq_false_iff, decide_not]; done) | fail) ?_
      (repeat (first | with_reducible refine Ops.nil ?_ | with_reducible refine W.region ?_ | refine Ops.pu rfl rfl rfl ?_ | refine Ops.ar rfl rfl rfl (by omega) ?_ | with_reducible refine W.endb ?_ | refine W.exit rfl ?_))
      exact W.endl ⟨_, _, ⟨⟨i + 1, T2, rfl, by omega, rfl, hD⟩, by omega⟩, (by repeat (first | exact trivial | refine And.intro rfl ?_))⟩
  · (repeat (first | with_reducible refine W.seq ?_ | with_reducible refine Ops.nil ?_ | with_reducible refine W.region ?_ | refine Ops.pu rfl rfl rfl ?_ | refine Ops.len rfl rfl rfl rfl rfl ?_))
    refine W.condF rfl (by first | rfl | assumption | (simp only [Int.toNat_natCast, beq_self_eq_true, decide_eq_true_eq, decide_eq_false_iff_not, beq_iff_eq, bne_iff_ne, ne_eq, beq_eq_false_iff_ne, bne_eq_false_iff_eq, Bool.not_true, Bool.not_false, Bool.not_eq_true', Bool.not_eq_false', beq_true, beq_false, Bool.not_not, gt_iff_lt, ge_iff_le, Bool.and_eq_true, Bool.or_eq_true, Bool.and_eq_false_iff, Bool.or_eq_false_iff, decide_not] <;> omega) | (simp only [*, Int.toNat_natCast, beq_self_eq_true, decide_eq_true_eq, decide_eq_false_iff_not, beq_iff_eq, bne_iff_ne, ne_eq, beq_eq_false_iff_ne, bne_eq_false_iff_eq, Bool.not_true, Bool.not_false, Bool.not_eq_true', Bool.not_eq_false', beq_true, beq_false, Bool.not_not, gt_iff_lt, ge_iff_le, Bool.and_eq_true, Bool.or_eq_true, Bool.and_eq_false_iff, Bool.or_eq_false_iff, decide_not]; done) | fail) ?_
    clear hD
    have hM17 := hM5.below hb17
    have hT17 := hT5.below hb17
    have hb017 := Below.via hb05 hb17
    (repeat (first | with_reducible refine W.seq ?_ | with_reducible refine W.region ?_ | refine Ops.pu rfl rfl rfl ?_ | refine W.exit rfl ?_))
    refine Ops.call rfl rfl rfl rfl rfl (O.Item_c (k := 0) hM17) (fun r w18 hR => ?_)
    obtain ⟨hb18, hyes, -⟩ := hR
    obtain ⟨v5, p5, rfl, hp5, hr5, h5⟩ := hyes ⟨hcB, by omega, by omega⟩
    clear hyes
    rw [item0 hp5 hr5] at h5
    have hv5 := h5.sl (z := (0 : Int))
    clear h5
    have hM18 := hM17.below hb18
    (repeat (first | with_reducible refine W.seq ?_ | with_reducible refine Ops.nil ?_ | with_reducible refine W.region ?_ | refine Ops.pu rfl rfl rfl ?_))
    refine Ops.call rfl rfl rfl rfl rfl (Slack_c hM18) (fun r w19 hR => ?_)
    obtain ⟨sv2, cvs2, rfl, hS2⟩ := hR.2 hcB
    have hb19 := hS2.o.bel
    have hS19 := hS2.rowsM
    clear hR hS2
    have hb1719 := Below.via hb18 hb19
    have hM19 := hM18.below hb19
    have hT19 := hT17.below hb1719
    (repeat (first | with_reducible refine W.seq ?_ | with_reducible refine Ops.nil ?_ | with_reducible refine W.region ?_ | refine Ops.pu rfl rfl rfl ?_ | refine Ops.yes rfl rfl rfl ?_))
    refine Ops.call rfl rfl rfl rfl rfl (tables_c hM19 hT19) (fun r w20 hR => ?_)
    obtain ⟨rfl, hb20⟩ := hR
    rw [decide_eq_true rfl]
    have hT20 := hT19.below hb20
    (repeat (first | refine Ops.pu rfl rfl rfl ?_ | refine Ops.yes rfl rfl rfl ?_))
    refine Ops.call rfl rfl rfl rfl rfl (refItem0_c hT20 hC) (fun r w21 hR => ?_)
    obtain ⟨hi21, hb21⟩ := hR
    (repeat (first | refine Ops.yes rfl rfl rfl ?_))
    refine Ops.call rfl rfl rfl rfl rfl (ints_c (Sl.below hv5 (Below.via hb19 (Below.via hb20 hb21))) hi21) (fun r w22 hR => ?_)
    obtain ⟨rfl, hb22⟩ := hR
    rw [decide_eq_true rfl]
    have hb2022 := Below.via hb21 hb22
    (repeat (first | refine Ops.pu rfl rfl rfl ?_ | refine Ops.yes rfl rfl rfl ?_))
    refine Ops.call rfl rfl rfl rfl rfl (refSlack_c (hT20.below hb2022) hC) (fun r w23 hR => ?_)
    obtain ⟨cvs3, hR3⟩ := hR
    have hb23 := hR3.o.bel
    have hS23 := (hR3.congr (T' := fun q => slRow c q c.length) (fun q hq => by rw [slRow_fl]; exact fl_congr fun j hj => slm_eq hC hq hj)).rowsM
    clear hR3
    (repeat (first | refine Ops.yes rfl rfl rfl ?_))
    refine Ops.call rfl rfl rfl rfl rfl (tables_c (hS19.below (Below.via hb20 (Below.via hb2022 hb23))) hS23) (fun r w24 hR => ?_)
    obtain ⟨rfl, hb24⟩ := hR
    rw [decide_eq_true rfl]
    (repeat (first | refine Ops.pu rfl rfl rfl ?_ | refine Ops.yes rfl rfl rfl ?_))
    refine Ops.call rfl rfl rfl rfl rfl (awake_c _) (fun r w25 hR => ?_)
    obtain ⟨rfl, hb25⟩ := hR
    (repeat (first | with_reducible refine Ops.nil ?_ | refine Ops.pu rfl rfl rfl ?_))
    exact W.fret rfl ⟨rfl, Below.via hb017 (Below.via hb1719 (Below.via hb20 (Below.via hb2022 (Below.via hb23 (Below.via hb24 hb25)))))⟩
end Go.Proofs.Ytehjmakiljhjdaa.O
