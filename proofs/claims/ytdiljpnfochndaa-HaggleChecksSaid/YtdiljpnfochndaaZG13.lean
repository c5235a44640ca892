/- A part of the walk: what this seat's statements share. -/
import Derived.Test.YtdiljpnfochndaaZG12
import Derived.Test.YtdiljpnfochndaaZG6
import Derived.Test.YtdiljpnfochndaaZG10
import Derived.RangeFuncCalls
import Derived.OrdersIn
import Derived.TacticsIn
set_option linter.unusedVariables false
set_option linter.unusedSimpArgs false
set_option linter.unusedSectionVars false
namespace Go.Proofs.Ytdiljpnfochndaa
open Go Go.RowKit Go.Proofs.Ytdiljpnfochndaa.VW
open Go.Proofs.Ytdiljpnfochndaa.HP (Nd kid wor leafB rd evB gameOf gameOf_TF TF TK ValP k_ PlsP PLN pls_set pls_part sumL prodL take_snoc kidsS srS GoodE srS_good kids_good)
attribute [local irreducible] W Ops OrdA VW.Ord OrdX
set_option maxHeartbeats 4000000 in
theorem refPlans_c {w : World} {v : Value} {l : List Nd} {dep : List Int} (hTr : TreeM w v l) (hT : TF l dep) :
    Calls Try.prog 47 #[v] w (Ret fun r w' => Below w.heap.size w w' ∧ ∃ vs ps, ValP l dep (wor l) vs ∧ PlsP l dep (vs.getD 0 0) ps ∧ r = .int .i64 (ps.getD 0 0)) := by
  obtain ⟨At, ct, rfl⟩ := hTr.sl
  have hn1 := hT.n1
  have hn60 := hT.n60
  refine calls_W (vs := [_]) Try.func47 rfl (by kernel_rfl) rfl ?_
  (repeat (first | with_reducible refine W.seq ?_ | with_reducible refine Ops.nil ?_ | with_reducible refine W.region ?_ | refine z_p (kk := ?_) | refine z_a (kk := ?_) | refine z_y (kk := ?_) | refine z_n (kk := ?_) | refine z_u (kk := ?_) | with_reducible refine W.skip ?_ | with_reducible refine W.endb ?_ | with_reducible refine W.block ?_ | refine W.exit rfl ?_ | refine z_l (kk := ?_) | refine z_f (kk := ?_) | refine z_M (kk := ?_) | refine z_m (kk := ?_) | refine z_e (kk := ?_) | refine z_E (kk := ?_) | refine z_d (kk := ?_) | refine z_I (kk := fun _ => ?_) | refine z_J (kk := fun _ => ?_) | refine z_K (kk := fun _ => ?_) | refine z_L (kk := fun _ => ?_) | refine z_T (kk := ?_) | refine z_F (kk := ?_) | refine z_k (kk := fun _ _ _ _ _ => ?_) | refine z_w (kk := fun _ _ => ?_) | refine z_s (kk := fun _ _ _ _ => ?_) | refine z_D (kk := ?_) | refine z_g (kk := ?_) | refine z_h (kk := ?_)))
  refine Ops.call rfl rfl rfl rfl rfl (even_c hTr hT) (fun r w1 hR => ?_)
  obtain ⟨es, hE, hel, hev⟩ := hR
  have hb1 := hE.bel
  have hT1 := hTr.below hb1
  have hE1 : SlB w1 r es := hE.sl
  obtain ⟨Ae, ce, rfl⟩ := Sl.sl hE1
  clear hE
  (repeat (first | with_reducible refine W.seq ?_ | with_reducible refine Ops.nil ?_ | with_reducible refine W.region ?_ | refine z_p (kk := ?_) | refine z_a (kk := ?_) | refine z_y (kk := ?_) | refine z_n (kk := ?_) | refine z_u (kk := ?_) | with_reducible refine W.skip ?_ | with_reducible refine W.endb ?_ | with_reducible refine W.block ?_ | refine W.exit rfl ?_ | refine z_l (kk := ?_) | refine z_f (kk := ?_) | refine z_M (kk := ?_) | refine z_m (kk := ?_) | refine z_e (kk := ?_) | refine z_E (kk := ?_) | refine z_d (kk := ?_) | refine z_I (kk := fun _ => ?_) | refine z_J (kk := fun _ => ?_) | refine z_K (kk := fun _ => ?_) | refine z_L (kk := fun _ => ?_) | refine z_T (kk := ?_) | refine z_F (kk := ?_) | refine z_k (kk := fun _ _ _ _ _ => ?_) | refine z_w (kk := fun _ _ => ?_) | refine z_s (kk := fun _ _ _ _ => ?_) | refine z_D (kk := ?_) | refine z_g (kk := ?_) | refine z_h (kk := ?_)))
  refine Ops.call rfl rfl rfl rfl rfl (refValues_c hT1 hT) (fun r w2 hR => ?_)
  obtain ⟨vs, hI, hvs⟩ := hR
  have hb2 := Below.via hb1 hI.bel
  have hT2 := hT1.below hI.bel
  have hE2 := Sl.below hE1 hI.bel
  have hvl := hvs.len
  have hv2 : SlI w2 r vs := hI.sl
  obtain ⟨Av, cv, rfl⟩ := Sl.sl hv2
  clear hI hT1 hE1 hTr
  (repeat (first | with_reducible refine W.seq ?_ | with_reducible refine Ops.nil ?_ | with_reducible refine W.region ?_ | refine z_p (kk := ?_) | refine z_a (kk := ?_) | refine z_y (kk := ?_) | refine z_n (kk := ?_) | refine z_u (kk := ?_) | with_reducible refine W.skip ?_ | with_reducible refine W.endb ?_ | with_reducible refine W.block ?_ | refine W.exit rfl ?_ | refine z_l (kk := ?_) | refine z_f (kk := ?_) | refine z_M (kk := ?_) | refine z_m (kk := ?_) | refine z_e (kk := ?_) | refine z_E (kk := ?_) | refine z_d (kk := ?_) | refine z_I (kk := fun _ => ?_) | refine z_J (kk := fun _ => ?_) | refine z_K (kk := fun _ => ?_) | refine z_L (kk := fun _ => ?_) | refine z_T (kk := ?_) | refine z_F (kk := ?_) | refine z_k (kk := fun _ _ _ _ _ => ?_) | refine z_w (kk := fun _ _ => ?_) | refine z_s (kk := fun _ _ _ _ => ?_) | refine z_D (kk := ?_) | refine z_g (kk := ?_) | refine z_h (kk := ?_)))
  rw [show vs.getD (Int.toNat 0) 0 = vs.getD 0 0 from rfl]
  generalize hbv : vs.getD 0 0 = b at *
  (repeat (first | with_reducible refine W.seq ?_ | with_reducible refine Ops.nil ?_ | with_reducible refine W.region ?_ | refine z_p (kk := ?_) | refine z_a (kk := ?_) | refine z_y (kk := ?_) | refine z_n (kk := ?_) | refine z_u (kk := ?_) | with_reducible refine W.skip ?_ | with_reducible refine W.endb ?_ | with_reducible refine W.block ?_ | refine W.exit rfl ?_ | refine z_l (kk := ?_) | refine z_f (kk := ?_) | refine z_M (kk := ?_) | refine z_m (kk := ?_) | refine z_e (kk := ?_) | refine z_E (kk := ?_) | refine z_d (kk := ?_) | refine z_I (kk := fun _ => ?_) | refine z_J (kk := fun _ => ?_) | refine z_K (kk := fun _ => ?_) | refine z_L (kk := fun _ => ?_) | refine z_T (kk := ?_) | refine z_F (kk := ?_) | refine z_k (kk := fun _ _ _ _ _ => ?_) | refine z_w (kk := fun _ _ => ?_) | refine z_s (kk := fun _ _ _ _ => ?_) | refine z_D (kk := ?_) | refine z_g (kk := ?_) | refine z_h (kk := ?_)))
  refine Ops.mkO (w0 := w2) (Value.int .i64) 0 rfl rfl rfl rfl rfl rfl rfl rfl rfl (by omega) rfl (Below.refl _ _) (fun w3 dr hO3 k3 _ => ?_)
  have hlr : (List.replicate l.length (0 : Int)).length = l.length := by simp
  have hz3 : ∀ j : Nat, j < l.length → (List.replicate l.length (0 : Int)).getD j 0 = 0 := fun j hj => rep_getD hj
  generalize List.replicate l.length (0 : Int) = os3 at *
  (repeat (first | with_reducible refine W.seq ?_ | with_reducible refine Ops.nil ?_ | with_reducible refine W.region ?_ | refine z_p (kk := ?_) | refine z_a (kk := ?_) | refine z_y (kk := ?_) | refine z_n (kk := ?_) | refine z_u (kk := ?_) | with_reducible refine W.skip ?_ | with_reducible refine W.endb ?_ | with_reducible refine W.block ?_ | refine W.exit rfl ?_ | refine z_l (kk := ?_) | refine z_f (kk := ?_) | refine z_M (kk := ?_) | refine z_m (kk := ?_) | refine z_e (kk := ?_) | refine z_E (kk := ?_) | refine z_d (kk := ?_) | refine z_I (kk := fun _ => ?_) | refine z_J (kk := fun _ => ?_) | refine z_K (kk := fun _ => ?_) | refine z_L (kk := fun _ => ?_) | refine z_T (kk := ?_) | refine z_F (kk := ?_) | refine z_k (kk := fun _ _ _ _ _ => ?_) | refine z_w (kk := fun _ _ => ?_) | refine z_s (kk := fun _ _ _ _ => ?_) | refine z_D (kk := ?_) | refine z_g (kk := ?_) | refine z_h (kk := ?_)))
  refine W.loop (fun m ρ w4 => ∃ (q : Nat) (os : List Int), m = q ∧ q ≤ l.length ∧ ρ = [(0, .slice At l.length ct), (3, .slice Ae es.length ce), (4, .int .i64 b), (5, .slice (some ⟨dr, 0, none⟩) l.length l.length), (6, .int .i64 ((q : Int) - 1))] ∧ OI 3 (Value.int .i64) w2 w4 (.slice (some ⟨dr, 0, none⟩) l.length l.length) os ∧ os.length = l.length ∧ (∀ j : Nat, q ≤ j → j < l.length → os.getD j 0 = PLN l dep b os j) ∧ ∀ j : Nat, j < q → os.getD j 0 = 0)
    ⟨_, _, ⟨l.length, _, rfl, Nat.le_refl _, rfl, hO3, hlr, fun j h1 h2 => by omega, hz3⟩, (by repeat (first | exact trivial | refine And.intro rfl ?_))⟩ ?_
  clear hO3 hlr hz3
  rintro m ρ w4 ⟨q, os, hm, hq, rfl, hO, hol, hv, hz⟩
  subst m
  have hb4 := hO.bel
  (repeat (first | with_reducible refine W.seq ?_ | with_reducible refine Ops.nil ?_ | with_reducible refine W.region ?_ | refine z_p (kk := ?_) | refine z_a (kk := ?_) | refine z_y (kk := ?_) | refine z_n (kk := ?_) | refine z_u (kk := ?_) | with_reducible refine W.skip ?_ | with_reducible refine W.endb ?_ | with_reducible refine W.block ?_ | refine W.exit rfl ?_ | refine z_l (kk := ?_) | refine z_f (kk := ?_) | refine z_M (kk := ?_) | refine z_m (kk := ?_) | refine z_e (kk := ?_) | refine z_E (kk := ?_) | refine z_d (kk := ?_) | refine z_I (kk := fun _ => ?_) | refine z_J (kk := fun _ => ?_) | refine z_K (kk := fun _ => ?_) | refine z_L (kk := fun _ => ?_) | refine z_T (kk := ?_) | refine z_F (kk := ?_) | refine z_k (kk := fun _ _ _ _ _ => ?_) | refine z_w (kk := fun _ _ => ?_) | refine z_s (kk := fun _ _ _ _ => ?_) | refine z_D (kk := ?_) | refine z_g (kk := ?_) | refine z_h (kk := ?_)))
  (first | refine W.condD rfl (fun hc => ?_) (fun hc => ?_) | refine W.condE rfl (fun hc => ?_) (fun hc => ?_) | refine W.condN rfl (fun hc => ?_) (fun hc => ?_) | refine W.cond rfl (fun hc => ?_) (fun hc => ?_))
  · obtain ⟨p, rfl⟩ : ∃ p, q = p + 1 := ⟨q - 1, by omega⟩
    have hp : p < l.length := by omega
    rw [show ((p + 1 : Nat) : Int) - 1 = p by omega]
    have hevp := hev p hp
    have hz0 := hz p (by omega)
    have hfin : ∀ (x : Int), x = PLN l dep b os p → (os.set p x).length = l.length ∧ (∀ j : Nat, p ≤ j → j < l.length → (os.set p x).getD j 0 = PLN l dep b (os.set p x) j) ∧ ∀ j : Nat, j < p → (os.set p x).getD j 0 = 0 := fun x hx => ⟨by simp [hol], pls_set hT hp hol hx hv, zset (n := 0) hz⟩
    obtain ⟨hpart1, hpart2⟩ := pls_part hT hp hv
    have hkl := hT.klen p hp
    have hkin := hT.kin p
    have hlfk : leafB l p = decide ((kid l p).length = 0) := by unfold leafB; cases kid l p <;> simp
    (repeat (first | with_reducible refine W.seq ?_ | with_reducible refine Ops.nil ?_ | with_reducible refine W.region ?_ | refine z_p (kk := ?_) | refine z_a (kk := ?_) | refine z_y (kk := ?_) | refine z_n (kk := ?_) | refine z_u (kk := ?_) | with_reducible refine W.skip ?_ | with_reducible refine W.endb ?_ | with_reducible refine W.block ?_ | refine W.exit rfl ?_ | refine z_l (kk := ?_) | refine z_f (kk := ?_) | refine z_M (kk := ?_) | refine z_m (kk := ?_) | refine z_e (kk := ?_) | refine z_E (kk := ?_) | refine z_d (kk := ?_) | refine z_I (kk := fun _ => ?_) | refine z_J (kk := fun _ => ?_) | refine z_K (kk := fun _ => ?_) | refine z_L (kk := fun _ => ?_) | refine z_T (kk := ?_) | refine z_F (kk := ?_) | refine z_k (kk := fun _ _ _ _ _ => ?_) | refine z_w (kk := fun _ _ => ?_) | refine z_s (kk := fun _ _ _ _ => ?_) | refine z_D (kk := ?_) | refine z_g (kk := ?_) | refine z_h (kk := ?_)))
    refine Ops.cut (fun ρ w' => ∃ c : Bool, c = ((leafB l p && decide (b ≤ wor l p)) || (!leafB l p && !evB dep p)) ∧ ρ = [(0, .slice At l.length ct), (3, .slice Ae es.length ce), (4, .int .i64 b), (5, .slice (some ⟨dr, 0, none⟩) l.length l.length), (6, .int .i64 p), (53, .bool c)] ∧ Below w4.heap.size w4 w') ?_ ?_
    · refine Ops.call rfl rfl rfl rfl rfl (leaf_c (Sl.below (by assumption) hb4) rfl) (fun r w5 hR => ?_)
      obtain ⟨rfl, hb5⟩ := hR
      have hb25 := Below.via hb4 hb5
      cases hlf : leafB l p with
      | true =>
        have hk0 : (kid l p).length = 0 := of_decide_eq_true (by rw [← hlfk]; exact hlf)
        by_cases hw : b ≤ wor l p
        · (repeat (first | with_reducible refine W.seq ?_ | with_reducible refine Ops.nil ?_ | with_reducible refine W.region ?_ | refine z_p (kk := ?_) | refine z_a (kk := ?_) | refine z_y (kk := ?_) | refine z_n (kk := ?_) | refine z_u (kk := ?_) | with_reducible refine W.skip ?_ | with_reducible refine W.endb ?_ | with_reducible refine W.block ?_ | refine W.exit rfl ?_ | refine z_l (kk := ?_) | refine z_f (kk := ?_) | refine z_M (kk := ?_) | refine z_m (kk := ?_) | refine z_e (kk := ?_) | refine z_E (kk := ?_) | refine z_d (kk := ?_) | refine z_I (kk := fun _ => ?_) | refine z_J (kk := fun _ => ?_) | refine z_K (kk := fun _ => ?_) | refine z_L (kk := fun _ => ?_) | refine z_T (kk := ?_) | refine z_F (kk := ?_) | refine z_k (kk := fun _ _ _ _ _ => ?_) | refine z_w (kk := fun _ _ => ?_) | refine z_s (kk := fun _ _ _ _ => ?_) | refine z_D (kk := ?_) | refine z_g (kk := ?_) | refine z_h (kk := ?_)))
          refine W.endl ⟨_, ⟨_, ?_, rfl, hb5⟩, (by repeat (first | exact trivial | refine And.intro rfl ?_))⟩
          simp [hk0, hw]
        · (repeat (first | with_reducible refine W.seq ?_ | with_reducible refine Ops.nil ?_ | with_reducible refine W.region ?_ | refine z_p (kk := ?_) | refine z_a (kk := ?_) | refine z_y (kk := ?_) | refine z_n (kk := ?_) | refine z_u (kk := ?_) | with_reducible refine W.skip ?_ | with_reducible refine W.endb ?_ | with_reducible refine W.block ?_ | refine W.exit rfl ?_ | refine z_l (kk := ?_) | refine z_f (kk := ?_) | refine z_M (kk := ?_) | refine z_m (kk := ?_) | refine z_e (kk := ?_) | refine z_E (kk := ?_) | refine z_d (kk := ?_) | refine z_I (kk := fun _ => ?_) | refine z_J (kk := fun _ => ?_) | refine z_K (kk := fun _ => ?_) | refine z_L (kk := fun _ => ?_) | refine z_T (kk := ?_) | refine z_F (kk := ?_) | refine z_k (kk := fun _ _ _ _ _ => ?_) | refine z_w (kk := fun _ _ => ?_) | refine z_s (kk := fun _ _ _ _ => ?_) | refine z_D (kk := ?_) | refine z_g (kk := ?_) | refine z_h (kk := ?_)))
          refine Ops.call rfl rfl rfl rfl rfl (leaf_c (Sl.below (by assumption) hb25) rfl) (fun r w6 hR => ?_)
          obtain ⟨rfl, hb6⟩ := hR
          have hb46 := Below.via hb5 hb6
          (repeat (first | with_reducible refine W.seq ?_ | with_reducible refine Ops.nil ?_ | with_reducible refine W.region ?_ | refine z_p (kk := ?_) | refine z_a (kk := ?_) | refine z_y (kk := ?_) | refine z_n (kk := ?_) | refine z_u (kk := ?_) | with_reducible refine W.skip ?_ | with_reducible refine W.endb ?_ | with_reducible refine W.block ?_ | refine W.exit rfl ?_ | refine z_l (kk := ?_) | refine z_f (kk := ?_) | refine z_M (kk := ?_) | refine z_m (kk := ?_) | refine z_e (kk := ?_) | refine z_E (kk := ?_) | refine z_d (kk := ?_) | refine z_I (kk := fun _ => ?_) | refine z_J (kk := fun _ => ?_) | refine z_K (kk := fun _ => ?_) | refine z_L (kk := fun _ => ?_) | refine z_T (kk := ?_) | refine z_F (kk := ?_) | refine z_k (kk := fun _ _ _ _ _ => ?_) | refine z_w (kk := fun _ _ => ?_) | refine z_s (kk := fun _ _ _ _ => ?_) | refine z_D (kk := ?_) | refine z_g (kk := ?_) | refine z_h (kk := ?_)))
          refine W.endl ⟨_, ⟨_, ?_, rfl, hb46⟩, (by repeat (first | exact trivial | refine And.intro rfl ?_))⟩
          simp [hk0, hw]
      | false =>
        have hk0 : ¬ (kid l p).length = 0 := of_decide_eq_false (by rw [← hlfk]; exact hlf)
        (repeat (first | with_reducible refine W.seq ?_ | with_reducible refine Ops.nil ?_ | with_reducible refine W.region ?_ | refine z_p (kk := ?_) | refine z_a (kk := ?_) | refine z_y (kk := ?_) | refine z_n (kk := ?_) | refine z_u (kk := ?_) | with_reducible refine W.skip ?_ | with_reducible refine W.endb ?_ | with_reducible refine W.block ?_ | refine W.exit rfl ?_ | refine z_l (kk := ?_) | refine z_f (kk := ?_) | refine z_M (kk := ?_) | refine z_m (kk := ?_) | refine z_e (kk := ?_) | refine z_E (kk := ?_) | refine z_d (kk := ?_) | refine z_I (kk := fun _ => ?_) | refine z_J (kk := fun _ => ?_) | refine z_K (kk := fun _ => ?_) | refine z_L (kk := fun _ => ?_) | refine z_T (kk := ?_) | refine z_F (kk := ?_) | refine z_k (kk := fun _ _ _ _ _ => ?_) | refine z_w (kk := fun _ _ => ?_) | refine z_s (kk := fun _ _ _ _ => ?_) | refine z_D (kk := ?_) | refine z_g (kk := ?_) | refine z_h (kk := ?_)))
        refine Ops.call rfl rfl rfl rfl rfl (leaf_c (Sl.below (by assumption) hb25) rfl) (fun r w6 hR => ?_)
        obtain ⟨rfl, hb6⟩ := hR
        have hb46 := Below.via hb5 hb6
        have hb26 := Below.via hb25 hb6
        (repeat (first | with_reducible refine W.seq ?_ | with_reducible refine Ops.nil ?_ | with_reducible refine W.region ?_ | refine z_p (kk := ?_) | refine z_a (kk := ?_) | refine z_y (kk := ?_) | refine z_n (kk := ?_) | refine z_u (kk := ?_) | with_reducible refine W.skip ?_ | with_reducible refine W.endb ?_ | with_reducible refine W.block ?_ | refine W.exit rfl ?_ | refine z_l (kk := ?_) | refine z_f (kk := ?_) | refine z_M (kk := ?_) | refine z_m (kk := ?_) | refine z_e (kk := ?_) | refine z_E (kk := ?_) | refine z_d (kk := ?_) | refine z_I (kk := fun _ => ?_) | refine z_J (kk := fun _ => ?_) | refine z_K (kk := fun _ => ?_) | refine z_L (kk := fun _ => ?_) | refine z_T (kk := ?_) | refine z_F (kk := ?_) | refine z_k (kk := fun _ _ _ _ _ => ?_) | refine z_w (kk := fun _ _ => ?_) | refine z_s (kk := fun _ _ _ _ => ?_) | refine z_D (kk := ?_) | refine z_g (kk := ?_) | refine z_h (kk := ?_)))
        refine W.endl ⟨_, ⟨_, ?_, rfl, hb46⟩, (by repeat (first | exact trivial | refine And.intro rfl ?_))⟩
        rw [← hevp]
        cases es.getD p false <;> simp [hk0]
    rintro ρ w5 ⟨g, hg, rfl, hb5⟩
    have hO5 := hO.below hb5
    clear hO
    refine W.cut (fun ρ w' => ρ = [(0, .slice At l.length ct), (3, .slice Ae es.length ce), (4, .int .i64 b), (5, .slice (some ⟨dr, 0, none⟩) l.length l.length), (6, .int .i64 p)] ∧ OI 3 (Value.int .i64) w2 w' (.slice (some ⟨dr, 0, none⟩) l.length l.length) (os.set p (if g then 1 else 0))) ?_ ?_
    · cases g with
      | true =>
        refine W.condT rfl (by first | rfl | assumption | (simp only [bnf] <;> omega) | (simp only [*, bnf]; done) | fail) ?_
        (repeat (first | with_reducible refine W.seq ?_ | with_reducible refine Ops.nil ?_ | with_reducible refine W.region ?_ | refine z_p (kk := ?_) | refine z_a (kk := ?_) | refine z_y (kk := ?_) | refine z_n (kk := ?_) | refine z_u (kk := ?_) | with_reducible refine W.skip ?_ | with_reducible refine W.endb ?_ | with_reducible refine W.block ?_ | refine W.exit rfl ?_ | refine z_l (kk := ?_) | refine z_f (kk := ?_) | refine z_M (kk := ?_) | refine z_m (kk := ?_) | refine z_e (kk := ?_) | refine z_E (kk := ?_) | refine z_d (kk := ?_) | refine z_I (kk := fun _ => ?_) | refine z_J (kk := fun _ => ?_) | refine z_K (kk := fun _ => ?_) | refine z_L (kk := fun _ => ?_) | refine z_T (kk := ?_) | refine z_F (kk := ?_) | refine z_k (kk := fun _ _ _ _ _ => ?_) | refine z_w (kk := fun _ _ => ?_) | refine z_s (kk := fun _ _ _ _ => ?_) | refine z_D (kk := ?_) | refine z_g (kk := ?_) | refine z_h (kk := ?_)))
        refine Ops.wrO (enc := Value.int .i64) rfl rfl rfl rfl rfl rfl rfl rfl rfl rfl rfl rfl (by simp) rfl hO5 (by omega) (fun w6 _ hO6 _ _ => ?_)
        (repeat (first | with_reducible refine W.seq ?_ | with_reducible refine Ops.nil ?_ | with_reducible refine W.region ?_ | refine z_p (kk := ?_) | refine z_a (kk := ?_) | refine z_y (kk := ?_) | refine z_n (kk := ?_) | refine z_u (kk := ?_) | with_reducible refine W.skip ?_ | with_reducible refine W.endb ?_ | with_reducible refine W.block ?_ | refine W.exit rfl ?_ | refine z_l (kk := ?_) | refine z_f (kk := ?_) | refine z_M (kk := ?_) | refine z_m (kk := ?_) | refine z_e (kk := ?_) | refine z_E (kk := ?_) | refine z_d (kk := ?_) | refine z_I (kk := fun _ => ?_) | refine z_J (kk := fun _ => ?_) | refine z_K (kk := fun _ => ?_) | refine z_L (kk := fun _ => ?_) | refine z_T (kk := ?_) | refine z_F (kk := ?_) | refine z_k (kk := fun _ _ _ _ _ => ?_) | refine z_w (kk := fun _ _ => ?_) | refine z_s (kk := fun _ _ _ _ => ?_) | refine z_D (kk := ?_) | refine z_g (kk := ?_) | refine z_h (kk := ?_)))
        exact W.endl ⟨_, ⟨rfl, hO6⟩, (by repeat (first | exact trivial | refine And.intro rfl ?_))⟩
      | false =>
        refine W.condF rfl (by first | rfl | assumption | (simp only [bnf] <;> omega) | (simp only [*, bnf]; done) | fail) ?_
        (repeat (first | with_reducible refine W.seq ?_ | with_reducible refine Ops.nil ?_ | with_reducible refine W.region ?_ | refine z_p (kk := ?_) | refine z_a (kk := ?_) | refine z_y (kk := ?_) | refine z_n (kk := ?_) | refine z_u (kk := ?_) | with_reducible refine W.skip ?_ | with_reducible refine W.endb ?_ | with_reducible refine W.block ?_ | refine W.exit rfl ?_ | refine z_l (kk := ?_) | refine z_f (kk := ?_) | refine z_M (kk := ?_) | refine z_m (kk := ?_) | refine z_e (kk := ?_) | refine z_E (kk := ?_) | refine z_d (kk := ?_) | refine z_I (kk := fun _ => ?_) | refine z_J (kk := fun _ => ?_) | refine z_K (kk := fun _ => ?_) | refine z_L (kk := fun _ => ?_) | refine z_T (kk := ?_) | refine z_F (kk := ?_) | refine z_k (kk := fun _ _ _ _ _ => ?_) | refine z_w (kk := fun _ _ => ?_) | refine z_s (kk := fun _ _ _ _ => ?_) | refine z_D (kk := ?_) | refine z_g (kk := ?_) | refine z_h (kk := ?_)))
        rw [← set_same (os := os) (p := p) (by omega), hz0] at hO5
        exact W.endl ⟨_, ⟨rfl, hO5⟩, (by repeat (first | exact trivial | refine And.intro rfl ?_))⟩
    rintro ρ w6 ⟨rfl, hO6⟩
    clear hO5
    (repeat (first | with_reducible refine W.seq ?_ | with_reducible refine Ops.nil ?_ | with_reducible refine W.region ?_ | refine z_p (kk := ?_) | refine z_a (kk := ?_) | refine z_y (kk := ?_) | refine z_n (kk := ?_) | refine z_u (kk := ?_) | with_reducible refine W.skip ?_ | with_reducible refine W.endb ?_ | with_reducible refine W.block ?_ | refine W.exit rfl ?_ | refine z_l (kk := ?_) | refine z_f (kk := ?_) | refine z_M (kk := ?_) | refine z_m (kk := ?_) | refine z_e (kk := ?_) | refine z_E (kk := ?_) | refine z_d (kk := ?_) | refine z_I (kk := fun _ => ?_) | refine z_J (kk := fun _ => ?_) | refine z_K (kk := fun _ => ?_) | refine z_L (kk := fun _ => ?_) | refine z_T (kk := ?_) | refine z_F (kk := ?_) | refine z_k (kk := fun _ _ _ _ _ => ?_) | refine z_w (kk := fun _ _ => ?_) | refine z_s (kk := fun _ _ _ _ => ?_) | refine z_D (kk := ?_) | refine z_g (kk := ?_) | refine z_h (kk := ?_)))
    refine W.loop (fun m ρ w7 => ∃ (j : Nat) (a : Int), m = (kid l p).length - j ∧ j ≤ (kid l p).length ∧ ρ = [(0, .slice At l.length ct), (3, .slice Ae es.length ce), (4, .int .i64 b), (5, .slice (some ⟨dr, 0, none⟩) l.length l.length), (6, .int .i64 p), (7, .int .i64 j)] ∧ OI 3 (Value.int .i64) w2 w7 (.slice (some ⟨dr, 0, none⟩) l.length l.length) (os.set p a) ∧ (leafB l p = true → a = if b ≤ wor l p then 1 else 0) ∧ (leafB l p = false → a = if evB dep p = true then sumL (((kid l p).map (rd os)).take j) else prodL (((kid l p).map (rd os)).take j)))
      ⟨_, _, ⟨0, _, rfl, Nat.zero_le _, rfl, hO6, fun hlf => ?_, fun hlf => ?_⟩, (by repeat (first | exact trivial | refine And.intro rfl ?_))⟩ ?_
    · rw [hg, hlf]; simp
    · rw [hg, hlf]; cases evB dep p <;> rfl
    clear hO6
    rintro m ρ w7 ⟨j, a, rfl, hj, rfl, hO7, ha1, ha2⟩
    have hb7 := hO7.bel
    have hosl : (os.set p a).length = l.length := by simp [hol]
    have hosp : (os.set p a).getD p 0 = a := Go.Proofs.Ytdiljpnfochndaa.HP.getD_set_eq (by omega)
    (repeat (first | with_reducible refine W.seq ?_ | with_reducible refine Ops.nil ?_ | with_reducible refine W.region ?_ | refine z_p (kk := ?_) | refine z_a (kk := ?_) | refine z_y (kk := ?_) | refine z_n (kk := ?_) | refine z_u (kk := ?_) | with_reducible refine W.skip ?_ | with_reducible refine W.endb ?_ | with_reducible refine W.block ?_ | refine W.exit rfl ?_ | refine z_l (kk := ?_) | refine z_f (kk := ?_) | refine z_M (kk := ?_) | refine z_m (kk := ?_) | refine z_e (kk := ?_) | refine z_E (kk := ?_) | refine z_d (kk := ?_) | refine z_I (kk := fun _ => ?_) | refine z_J (kk := fun _ => ?_) | refine z_K (kk := fun _ => ?_) | refine z_L (kk := fun _ => ?_) | refine z_T (kk := ?_) | refine z_F (kk := ?_) | refine z_k (kk := fun _ _ _ _ _ => ?_) | refine z_w (kk := fun _ _ => ?_) | refine z_s (kk := fun _ _ _ _ => ?_) | refine z_D (kk := ?_) | refine z_g (kk := ?_) | refine z_h (kk := ?_)))
    (first | refine W.condD rfl (fun hc => ?_) (fun hc => ?_) | refine W.condE rfl (fun hc => ?_) (fun hc => ?_) | refine W.condN rfl (fun hc => ?_) (fun hc => ?_) | refine W.cond rfl (fun hc => ?_) (fun hc => ?_))
    · have hjl : j < (kid l p).length := by omega
      have hlf : leafB l p = false := by rw [hlfk]; exact decide_eq_false (by omega)
      have ha := ha2 hlf
      have hkj := hkin j hp hjl
      simp only [k_] at hkj
      have hrd : (os.set p a).getD ((kid l p).getD j 0).toNat 0 = rd os ((kid l p).getD j 0) := rd_set_ne (os := os) (x := a) hkj.1
      have hml : j < ((kid l p).map (rd os)).length := by simpa using hjl
      have hbd := hpart2 (j + 1)
      (repeat (first | with_reducible refine W.seq ?_ | with_reducible refine Ops.nil ?_ | with_reducible refine W.region ?_ | refine z_p (kk := ?_) | refine z_a (kk := ?_) | refine z_y (kk := ?_) | refine z_n (kk := ?_) | refine z_u (kk := ?_) | with_reducible refine W.skip ?_ | with_reducible refine W.endb ?_ | with_reducible refine W.block ?_ | refine W.exit rfl ?_ | refine z_l (kk := ?_) | refine z_f (kk := ?_) | refine z_M (kk := ?_) | refine z_m (kk := ?_) | refine z_e (kk := ?_) | refine z_E (kk := ?_) | refine z_d (kk := ?_) | refine z_I (kk := fun _ => ?_) | refine z_J (kk := fun _ => ?_) | refine z_K (kk := fun _ => ?_) | refine z_L (kk := fun _ => ?_) | refine z_T (kk := ?_) | refine z_F (kk := ?_) | refine z_k (kk := fun _ _ _ _ _ => ?_) | refine z_w (kk := fun _ _ => ?_) | refine z_s (kk := fun _ _ _ _ => ?_) | refine z_D (kk := ?_) | refine z_g (kk := ?_) | refine z_h (kk := ?_)))
      rw [hrd]
      (repeat (first | with_reducible refine W.seq ?_ | with_reducible refine Ops.nil ?_ | with_reducible refine W.region ?_ | refine z_p (kk := ?_) | refine z_a (kk := ?_) | refine z_y (kk := ?_) | refine z_n (kk := ?_) | refine z_u (kk := ?_) | with_reducible refine W.skip ?_ | with_reducible refine W.endb ?_ | with_reducible refine W.block ?_ | refine W.exit rfl ?_ | refine z_l (kk := ?_) | refine z_f (kk := ?_) | refine z_M (kk := ?_) | refine z_m (kk := ?_) | refine z_e (kk := ?_) | refine z_E (kk := ?_) | refine z_d (kk := ?_) | refine z_I (kk := fun _ => ?_) | refine z_J (kk := fun _ => ?_) | refine z_K (kk := fun _ => ?_) | refine z_L (kk := fun _ => ?_) | refine z_T (kk := ?_) | refine z_F (kk := ?_) | refine z_k (kk := fun _ _ _ _ _ => ?_) | refine z_w (kk := fun _ _ => ?_) | refine z_s (kk := fun _ _ _ _ => ?_) | refine z_D (kk := ?_) | refine z_g (kk := ?_) | refine z_h (kk := ?_)))
      cases hev : evB dep p with
      | true =>
        have hevp2 : es.getD p false = true := by rw [hevp, hev]
        rw [hev, if_pos rfl] at ha
        have hnew : a + rd os ((kid l p).getD j 0) = sumL (((kid l p).map (rd os)).take (j + 1)) := by rw [sumL_take hml, getD_map_rd hjl, ← ha]
        rw [← hnew] at hbd
        refine W.condT rfl (by first | rfl | assumption | (simp only [bnf] <;> omega) | (simp only [*, bnf]; done) | fail) ?_
        (repeat (first | with_reducible refine W.seq ?_ | with_reducible refine Ops.nil ?_ | with_reducible refine W.region ?_ | refine z_p (kk := ?_) | refine z_a (kk := ?_) | refine z_y (kk := ?_) | refine z_n (kk := ?_) | refine z_u (kk := ?_) | with_reducible refine W.skip ?_ | with_reducible refine W.endb ?_ | with_reducible refine W.block ?_ | refine W.exit rfl ?_ | refine z_l (kk := ?_) | refine z_f (kk := ?_) | refine z_M (kk := ?_) | refine z_m (kk := ?_) | refine z_e (kk := ?_) | refine z_E (kk := ?_) | refine z_d (kk := ?_) | refine z_I (kk := fun _ => ?_) | refine z_J (kk := fun _ => ?_) | refine z_K (kk := fun _ => ?_) | refine z_L (kk := fun _ => ?_) | refine z_T (kk := ?_) | refine z_F (kk := ?_) | refine z_k (kk := fun _ _ _ _ _ => ?_) | refine z_w (kk := fun _ _ => ?_) | refine z_s (kk := fun _ _ _ _ => ?_) | refine z_D (kk := ?_) | refine z_g (kk := ?_) | refine z_h (kk := ?_)))
        rw [hosp]
        refine Ops.wrO (enc := Value.int .i64) rfl rfl rfl rfl rfl rfl rfl rfl rfl rfl rfl rfl (by simp) rfl hO7 (by omega) (fun w8 _ hO8 _ _ => ?_)
        rw [List.set_set] at hO8
        (repeat (first | with_reducible refine W.seq ?_ | with_reducible refine Ops.nil ?_ | with_reducible refine W.region ?_ | refine z_p (kk := ?_) | refine z_a (kk := ?_) | refine z_y (kk := ?_) | refine z_n (kk := ?_) | refine z_u (kk := ?_) | with_reducible refine W.skip ?_ | with_reducible refine W.endb ?_ | with_reducible refine W.block ?_ | refine W.exit rfl ?_ | refine z_l (kk := ?_) | refine z_f (kk := ?_) | refine z_M (kk := ?_) | refine z_m (kk := ?_) | refine z_e (kk := ?_) | refine z_E (kk := ?_) | refine z_d (kk := ?_) | refine z_I (kk := fun _ => ?_) | refine z_J (kk := fun _ => ?_) | refine z_K (kk := fun _ => ?_) | refine z_L (kk := fun _ => ?_) | refine z_T (kk := ?_) | refine z_F (kk := ?_) | refine z_k (kk := fun _ _ _ _ _ => ?_) | refine z_w (kk := fun _ _ => ?_) | refine z_s (kk := fun _ _ _ _ => ?_) | refine z_D (kk := ?_) | refine z_g (kk := ?_) | refine z_h (kk := ?_)))
        exact W.endl ⟨_, _, ⟨⟨j + 1, _, rfl, by omega, rfl, hO8, fun h => absurd (hlf.symm.trans h) (by simp), fun _ => by rw [if_pos rfl]; exact hnew⟩, by omega⟩, (by repeat (first | exact trivial | refine And.intro rfl ?_))⟩
      | false =>
        have hevp2 : es.getD p false = false := by rw [hevp, hev]
        rw [hev, if_neg (by simp)] at ha
        have hnew : a * rd os ((kid l p).getD j 0) = prodL (((kid l p).map (rd os)).take (j + 1)) := by rw [prodL_take hml, getD_map_rd hjl, ← ha]
        rw [← hnew] at hbd
        refine W.condF rfl (by first | rfl | assumption | (simp only [bnf] <;> omega) | (simp only [*, bnf]; done) | fail) ?_
        (repeat (first | with_reducible refine W.seq ?_ | with_reducible refine Ops.nil ?_ | with_reducible refine W.region ?_ | refine z_p (kk := ?_) | refine z_a (kk := ?_) | refine z_y (kk := ?_) | refine z_n (kk := ?_) | refine z_u (kk := ?_) | with_reducible refine W.skip ?_ | with_reducible refine W.endb ?_ | with_reducible refine W.block ?_ | refine W.exit rfl ?_ | refine z_l (kk := ?_) | refine z_f (kk := ?_) | refine z_M (kk := ?_) | refine z_m (kk := ?_) | refine z_e (kk := ?_) | refine z_E (kk := ?_) | refine z_d (kk := ?_) | refine z_I (kk := fun _ => ?_) | refine z_J (kk := fun _ => ?_) | refine z_K (kk := fun _ => ?_) | refine z_L (kk := fun _ => ?_) | refine z_T (kk := ?_) | refine z_F (kk := ?_) | refine z_k (kk := fun _ _ _ _ _ => ?_) | refine z_w (kk := fun _ _ => ?_) | refine z_s (kk := fun _ _ _ _ => ?_) | refine z_D (kk := ?_) | refine z_g (kk := ?_) | refine z_h (kk := ?_)))
        rw [hosp]
        (repeat (first | with_reducible refine W.seq ?_ | with_reducible refine Ops.nil ?_ | with_reducible refine W.region ?_ | refine z_p (kk := ?_) | refine z_a (kk := ?_) | refine z_y (kk := ?_) | refine z_n (kk := ?_) | refine z_u (kk := ?_) | with_reducible refine W.skip ?_ | with_reducible refine W.endb ?_ | with_reducible refine W.block ?_ | refine W.exit rfl ?_ | refine z_l (kk := ?_) | refine z_f (kk := ?_) | refine z_M (kk := ?_) | refine z_m (kk := ?_) | refine z_e (kk := ?_) | refine z_E (kk := ?_) | refine z_d (kk := ?_) | refine z_I (kk := fun _ => ?_) | refine z_J (kk := fun _ => ?_) | refine z_K (kk := fun _ => ?_) | refine z_L (kk := fun _ => ?_) | refine z_T (kk := ?_) | refine z_F (kk := ?_) | refine z_k (kk := fun _ _ _ _ _ => ?_) | refine z_w (kk := fun _ _ => ?_) | refine z_s (kk := fun _ _ _ _ => ?_) | refine z_D (kk := ?_) | refine z_g (kk := ?_) | refine z_h (kk := ?_)))
        refine Ops.wrO (enc := Value.int .i64) rfl rfl rfl rfl rfl rfl rfl rfl rfl rfl rfl rfl (by simp) rfl hO7 (by omega) (fun w8 _ hO8 _ _ => ?_)
        rw [List.set_set] at hO8
        (repeat (first | with_reducible refine W.seq ?_ | with_reducible refine Ops.nil ?_ | with_reducible refine W.region ?_ | refine z_p (kk := ?_) | refine z_a (kk := ?_) | refine z_y (kk := ?_) | refine z_n (kk := ?_) | refine z_u (kk := ?_) | with_reducible refine W.skip ?_ | with_reducible refine W.endb ?_ | with_reducible refine W.block ?_ | refine W.exit rfl ?_ | refine z_l (kk := ?_) | refine z_f (kk := ?_) | refine z_M (kk := ?_) | refine z_m (kk := ?_) | refine z_e (kk := ?_) | refine z_E (kk := ?_) | refine z_d (kk := ?_) | refine z_I (kk := fun _ => ?_) | refine z_J (kk := fun _ => ?_) | refine z_K (kk := fun _ => ?_) | refine z_L (kk := fun _ => ?_) | refine z_T (kk := ?_) | refine z_F (kk := ?_) | refine z_k (kk := fun _ _ _ _ _ => ?_) | refine z_w (kk := fun _ _ => ?_) | refine z_s (kk := fun _ _ _ _ => ?_) | refine z_D (kk := ?_) | refine z_g (kk := ?_) | refine z_h (kk := ?_)))
        exact W.endl ⟨_, _, ⟨⟨j + 1, _, rfl, by omega, rfl, hO8, fun h => absurd (hlf.symm.trans h) (by simp), fun _ => by rw [if_neg (by simp)]; exact hnew⟩, by omega⟩, (by repeat (first | exact trivial | refine And.intro rfl ?_))⟩
    · have hjl : j = (kid l p).length := by omega
      subst hjl
      rw [List.take_of_length_le (by simp)] at ha2
      have hpl : a = PLN l dep b os p := by
        unfold PLN
        cases hlf : leafB l p with
        | true => exact ha1 hlf
        | false => exact ha2 hlf
      obtain ⟨h1, h2, h3⟩ := hfin a hpl
      (repeat (first | with_reducible refine W.seq ?_ | with_reducible refine Ops.nil ?_ | with_reducible refine W.region ?_ | refine z_p (kk := ?_) | refine z_a (kk := ?_) | refine z_y (kk := ?_) | refine z_n (kk := ?_) | refine z_u (kk := ?_) | with_reducible refine W.skip ?_ | with_reducible refine W.endb ?_ | with_reducible refine W.block ?_ | refine W.exit rfl ?_ | refine z_l (kk := ?_) | refine z_f (kk := ?_) | refine z_M (kk := ?_) | refine z_m (kk := ?_) | refine z_e (kk := ?_) | refine z_E (kk := ?_) | refine z_d (kk := ?_) | refine z_I (kk := fun _ => ?_) | refine z_J (kk := fun _ => ?_) | refine z_K (kk := fun _ => ?_) | refine z_L (kk := fun _ => ?_) | refine z_T (kk := ?_) | refine z_F (kk := ?_) | refine z_k (kk := fun _ _ _ _ _ => ?_) | refine z_w (kk := fun _ _ => ?_) | refine z_s (kk := fun _ _ _ _ => ?_) | refine z_D (kk := ?_) | refine z_g (kk := ?_) | refine z_h (kk := ?_)))
      exact W.endl ⟨_, _, ⟨⟨p, _, rfl, by omega, rfl, hO7, h1, h2, h3⟩, by omega⟩, (by repeat (first | exact trivial | refine And.intro rfl ?_))⟩
  · have : q = 0 := by omega
    subst this
    have hsl := hO.sl (z := (0 : Int))
    (repeat (first | with_reducible refine W.seq ?_ | with_reducible refine Ops.nil ?_ | with_reducible refine W.region ?_ | refine z_p (kk := ?_) | refine z_a (kk := ?_) | refine z_y (kk := ?_) | refine z_n (kk := ?_) | refine z_u (kk := ?_) | with_reducible refine W.skip ?_ | with_reducible refine W.endb ?_ | with_reducible refine W.block ?_ | refine W.exit rfl ?_ | refine z_l (kk := ?_) | refine z_f (kk := ?_) | refine z_M (kk := ?_) | refine z_m (kk := ?_) | refine z_e (kk := ?_) | refine z_E (kk := ?_) | refine z_d (kk := ?_) | refine z_I (kk := fun _ => ?_) | refine z_J (kk := fun _ => ?_) | refine z_K (kk := fun _ => ?_) | refine z_L (kk := fun _ => ?_) | refine z_T (kk := ?_) | refine z_F (kk := ?_) | refine z_k (kk := fun _ _ _ _ _ => ?_) | refine z_w (kk := fun _ _ => ?_) | refine z_s (kk := fun _ _ _ _ => ?_) | refine z_D (kk := ?_) | refine z_g (kk := ?_) | refine z_h (kk := ?_)))
    exact W.fret rfl ⟨Below.via hb2 hb4, vs, os, hvs, ⟨hol, fun j hj => by rw [hbv]; exact hv j (by omega) hj⟩, rfl⟩
theorem OI.one {α : Type} {enc : α → Value} {e r : Nat} {w w' : World} {x : α} (h : Mk w w' r (.cells #[enc x] e)) : OI e enc w w' (.slice (some ⟨r, 0, none⟩) 1 1) [x] :=
  OI.of (h.kp.below (Nat.le_refl _) (fun _ _ e => e)) (own_one h) (fun k hk => by simp [Value.ownBlock] at hk; have := h.r_eq; omega)
set_option maxHeartbeats 4000000 in
theorem refsearch_c {l : List Nd} {dep : List Int} (hT : TF l dep) : ∀ (f i : Nat) (lo hi : Int) (w : World) (v : Value), i < l.length → l.length ≤ i + f → lo < hi → TreeM w v l →
    Calls Try.prog 80 #[v, .int .i64 i, .bool (evB dep i), .int .i64 lo, .int .i64 hi] w (Ret fun r w' => ∃ ov, r = .tuple #[.int .i64 (srS l dep f i lo hi).1, ov] ∧ OI 3 (Value.int .i64) w w' ov (srS l dep f i lo hi).2) := by
  intro f
  induction f with
  | zero => intro i lo hi w v h1 h2; omega
  | succ f ih =>
    intro i lo hi w v hi1 hi2 hlt hTr
    obtain ⟨At, ct, rfl⟩ := hTr.sl
    have hn1 := hT.n1
    have hn60 := hT.n60
    have hkl := hT.klen i hi1
    have hkin := hT.kin i
    have hlfk : leafB l i = decide ((kid l i).length = 0) := by unfold leafB; cases kid l i <;> simp
    refine calls_W (vs := [_, _, _, _, _]) Try.func80 rfl (by kernel_rfl) rfl ?_
    (repeat (first | with_reducible refine W.seq ?_ | with_reducible refine Ops.nil ?_ | with_reducible refine W.region ?_ | refine z_p (kk := ?_) | refine z_a (kk := ?_) | refine z_y (kk := ?_) | refine z_n (kk := ?_) | refine z_u (kk := ?_) | with_reducible refine W.skip ?_ | with_reducible refine W.endb ?_ | with_reducible refine W.block ?_ | refine W.exit rfl ?_ | refine z_l (kk := ?_) | refine z_f (kk := ?_) | refine z_M (kk := ?_) | refine z_m (kk := ?_) | refine z_e (kk := ?_) | refine z_E (kk := ?_) | refine z_d (kk := ?_) | refine z_I (kk := fun _ => ?_) | refine z_J (kk := fun _ => ?_) | refine z_K (kk := fun _ => ?_) | refine z_L (kk := fun _ => ?_) | refine z_T (kk := ?_) | refine z_F (kk := ?_) | refine z_k (kk := fun _ _ _ _ _ => ?_) | refine z_w (kk := fun _ _ => ?_) | refine z_s (kk := fun _ _ _ _ => ?_) | refine z_D (kk := ?_) | refine z_g (kk := ?_) | refine z_h (kk := ?_)))
    refine Ops.call rfl rfl rfl rfl rfl (leaf_c (by assumption) rfl) (fun r w1 hR => ?_)
    obtain ⟨rfl, hb1⟩ := hR
    (repeat (first | with_reducible refine W.seq ?_ | with_reducible refine Ops.nil ?_ | with_reducible refine W.region ?_ | refine z_p (kk := ?_) | refine z_a (kk := ?_) | refine z_y (kk := ?_) | refine z_n (kk := ?_) | refine z_u (kk := ?_) | with_reducible refine W.skip ?_ | with_reducible refine W.endb ?_ | with_reducible refine W.block ?_ | refine W.exit rfl ?_ | refine z_l (kk := ?_) | refine z_f (kk := ?_) | refine z_M (kk := ?_) | refine z_m (kk := ?_) | refine z_e (kk := ?_) | refine z_E (kk := ?_) | refine z_d (kk := ?_) | refine z_I (kk := fun _ => ?_) | refine z_J (kk := fun _ => ?_) | refine z_K (kk := fun _ => ?_) | refine z_L (kk := fun _ => ?_) | refine z_T (kk := ?_) | refine z_F (kk := ?_) | refine z_k (kk := fun _ _ _ _ _ => ?_) | refine z_w (kk := fun _ _ => ?_) | refine z_s (kk := fun _ _ _ _ => ?_) | refine z_D (kk := ?_) | refine z_g (kk := ?_) | refine z_h (kk := ?_)))
    cases hlf : leafB l i with
    | true =>
      have hk0 : (kid l i).length = 0 := of_decide_eq_true (by rw [← hlfk]; exact hlf)
      have e : srS l dep (f + 1) i lo hi = (wor l i, [(i : Int)]) := by simp only [srS]; rw [if_pos hlf]
      refine W.condT rfl (by first | rfl | assumption | (simp only [bnf] <;> omega) | (simp only [*, bnf]; done) | fail) ?_
      (repeat (first | with_reducible refine W.seq ?_ | with_reducible refine Ops.nil ?_ | with_reducible refine W.region ?_ | refine z_p (kk := ?_) | refine z_a (kk := ?_) | refine z_y (kk := ?_) | refine z_n (kk := ?_) | refine z_u (kk := ?_) | with_reducible refine W.skip ?_ | with_reducible refine W.endb ?_ | with_reducible refine W.block ?_ | refine W.exit rfl ?_ | refine z_l (kk := ?_) | refine z_f (kk := ?_) | refine z_M (kk := ?_) | refine z_m (kk := ?_) | refine z_e (kk := ?_) | refine z_E (kk := ?_) | refine z_d (kk := ?_) | refine z_I (kk := fun _ => ?_) | refine z_J (kk := fun _ => ?_) | refine z_K (kk := fun _ => ?_) | refine z_L (kk := fun _ => ?_) | refine z_T (kk := ?_) | refine z_F (kk := ?_) | refine z_k (kk := fun _ _ _ _ _ => ?_) | refine z_w (kk := fun _ _ => ?_) | refine z_s (kk := fun _ _ _ _ => ?_) | refine z_D (kk := ?_) | refine z_g (kk := ?_) | refine z_h (kk := ?_)))
      refine Ops.bsG (cs := #[.int .i64 i]) rfl rfl rfl rfl rfl rfl rfl rfl rfl (by kernel_rfl) (fun w2 r hM => ?_)
      have hO2 : OI 3 (Value.int .i64) w1 w2 _ [(i : Int)] := OI.one hM
      (repeat (first | with_reducible refine W.seq ?_ | with_reducible refine Ops.nil ?_ | with_reducible refine W.region ?_ | refine z_p (kk := ?_) | refine z_a (kk := ?_) | refine z_y (kk := ?_) | refine z_n (kk := ?_) | refine z_u (kk := ?_) | with_reducible refine W.skip ?_ | with_reducible refine W.endb ?_ | with_reducible refine W.block ?_ | refine W.exit rfl ?_ | refine z_l (kk := ?_) | refine z_f (kk := ?_) | refine z_M (kk := ?_) | refine z_m (kk := ?_) | refine z_e (kk := ?_) | refine z_E (kk := ?_) | refine z_d (kk := ?_) | refine z_I (kk := fun _ => ?_) | refine z_J (kk := fun _ => ?_) | refine z_K (kk := fun _ => ?_) | refine z_L (kk := fun _ => ?_) | refine z_T (kk := ?_) | refine z_F (kk := ?_) | refine z_k (kk := fun _ _ _ _ _ => ?_) | refine z_w (kk := fun _ _ => ?_) | refine z_s (kk := fun _ _ _ _ => ?_) | refine z_D (kk := ?_) | refine z_g (kk := ?_) | refine z_h (kk := ?_)))
      exact W.fret rfl ⟨_, by rw [e]; rfl, by rw [e]; exact hO2.up hb1⟩
    | false =>
      have hk0 : ¬ (kid l i).length = 0 := of_decide_eq_false (by rw [← hlfk]; exact hlf)
      have hsr : srS l dep (f + 1) i lo hi = (if evB dep i then (kidsS (srS l dep f) (evB dep i) (kid l i) lo hi).1 else (kidsS (srS l dep f) (evB dep i) (kid l i) lo hi).2.1, (kidsS (srS l dep f) (evB dep i) (kid l i) lo hi).2.2) := by simp only [srS]; rw [if_neg (by rw [hlf]; simp)]
      have hgk : ∀ c ∈ kid l i, ∀ lo hi, GoodE l c (srS l dep f c lo hi).2 := fun c hc lo hi => by
        obtain ⟨h1, h2⟩ := Go.Proofs.Ytdiljpnfochndaa.HP.mem_kid hT hi1 hc
        have := srS_good hT f c.toNat lo hi (by omega)
        rw [show ((c.toNat : Nat) : Int) = c by omega] at this
        exact this
      have hgood := (kids_good hT hi1 (rec := srS l dep f) (ev := evB dep i) hgk _ 0 rfl (Nat.zero_le _) lo hi).1
      rw [List.drop_zero] at hgood
      rw [hsr]
      generalize hQ : kidsS (srS l dep f) (evB dep i) (kid l i) lo hi = Q at *
      refine W.condF rfl (by first | rfl | assumption | (simp only [bnf] <;> omega) | (simp only [*, bnf]; done) | fail) ?_
      (repeat (first | with_reducible refine W.seq ?_ | with_reducible refine Ops.nil ?_ | with_reducible refine W.region ?_ | refine z_p (kk := ?_) | refine z_a (kk := ?_) | refine z_y (kk := ?_) | refine z_n (kk := ?_) | refine z_u (kk := ?_) | with_reducible refine W.skip ?_ | with_reducible refine W.endb ?_ | with_reducible refine W.block ?_ | refine W.exit rfl ?_ | refine z_l (kk := ?_) | refine z_f (kk := ?_) | refine z_M (kk := ?_) | refine z_m (kk := ?_) | refine z_e (kk := ?_) | refine z_E (kk := ?_) | refine z_d (kk := ?_) | refine z_I (kk := fun _ => ?_) | refine z_J (kk := fun _ => ?_) | refine z_K (kk := fun _ => ?_) | refine z_L (kk := fun _ => ?_) | refine z_T (kk := ?_) | refine z_F (kk := ?_) | refine z_k (kk := fun _ _ _ _ _ => ?_) | refine z_w (kk := fun _ _ => ?_) | refine z_s (kk := fun _ _ _ _ => ?_) | refine z_D (kk := ?_) | refine z_g (kk := ?_) | refine z_h (kk := ?_)))
      refine W.loop (fun m ρ w3 => ∃ (t : Nat) (lo' hi' : Int) (ov : Value) (acc : List Int), m = (kid l i).length - t ∧ t ≤ (kid l i).length ∧ ρ = [(0, .slice At l.length ct), (1, .int .i64 i), (2, .bool (evB dep i)), (3, .int .i64 lo'), (4, .int .i64 hi'), (12, ov), (13, .int .i64 t)] ∧ OI 3 (Value.int .i64) w w3 ov acc ∧
          (lo' < hi' ∧ (kidsS (srS l dep f) (evB dep i) ((kid l i).drop t) lo' hi').1 = Q.1 ∧ (kidsS (srS l dep f) (evB dep i) ((kid l i).drop t) lo' hi').2.1 = Q.2.1 ∧ acc ++ (kidsS (srS l dep f) (evB dep i) ((kid l i).drop t) lo' hi').2.2 = Q.2.2 ∨ hi' ≤ lo' ∧ lo' = Q.1 ∧ hi' = Q.2.1 ∧ acc = Q.2.2))
        ⟨_, _, ⟨0, lo, hi, _, [], rfl, Nat.zero_le _, rfl, OI.nil hb1, .inl ⟨hlt, by rw [List.drop_zero, hQ], by rw [List.drop_zero, hQ], by rw [List.drop_zero, hQ]; rfl⟩⟩, (by repeat (first | exact trivial | refine And.intro rfl ?_))⟩ ?_
      rintro m ρ w3 ⟨t, lo', hi', ov, acc, rfl, ht, rfl, hO, hq⟩
      have hb3 := hO.bel
      have hout : ∀ (lo' hi' : Int) (ov : Value) (acc : List Int) (w' : World), OI 3 (Value.int .i64) w w' ov acc → lo' = Q.1 → hi' = Q.2.1 → acc = Q.2.2 → True := fun _ _ _ _ _ _ _ _ _ => trivial
      by_cases hgo : t < (kid l i).length ∧ lo' < hi'
      · obtain ⟨htl, hlh⟩ := hgo
        have hkj := hkin t hi1 htl
        simp only [k_] at hkj
        have hevc : evB dep ((kid l i).getD t 0) = !evB dep i := evB_kid hT hi1 htl
        rcases hq with ⟨_, hq1, hq2, hq3⟩ | ⟨h, _⟩
        · rw [Go.Proofs.Ytdiljpnfochndaa.HP.drop_get _ _ (0 : Int) htl] at hq1 hq2 hq3
          have hmem : (kid l i).getD t 0 ∈ kid l i := by
            rw [List.getD_eq_getElem?_getD, List.getElem?_eq_getElem (by omega)]
            simp
          have hcl := (hgk _ hmem lo' hi').len
          have hT3 := hTr.below hb3
          (repeat (first | with_reducible refine W.seq ?_ | with_reducible refine Ops.nil ?_ | with_reducible refine W.region ?_ | refine z_p (kk := ?_) | refine z_a (kk := ?_) | refine z_y (kk := ?_) | refine z_n (kk := ?_) | refine z_u (kk := ?_) | with_reducible refine W.skip ?_ | with_reducible refine W.endb ?_ | with_reducible refine W.block ?_ | refine W.exit rfl ?_ | refine z_l (kk := ?_) | refine z_f (kk := ?_) | refine z_M (kk := ?_) | refine z_m (kk := ?_) | refine z_e (kk := ?_) | refine z_E (kk := ?_) | refine z_d (kk := ?_) | refine z_I (kk := fun _ => ?_) | refine z_J (kk := fun _ => ?_) | refine z_K (kk := fun _ => ?_) | refine z_L (kk := fun _ => ?_) | refine z_T (kk := ?_) | refine z_F (kk := ?_) | refine z_k (kk := fun _ _ _ _ _ => ?_) | refine z_w (kk := fun _ _ => ?_) | refine z_s (kk := fun _ _ _ _ => ?_) | refine z_D (kk := ?_) | refine z_g (kk := ?_) | refine z_h (kk := ?_)))
          refine W.condT rfl (by first | rfl | assumption | (simp only [bnf] <;> omega) | (simp only [*, bnf]; done) | fail) ?_
          (repeat (first | with_reducible refine W.seq ?_ | with_reducible refine Ops.nil ?_ | with_reducible refine W.region ?_ | refine z_p (kk := ?_) | refine z_a (kk := ?_) | refine z_y (kk := ?_) | refine z_n (kk := ?_) | refine z_u (kk := ?_) | with_reducible refine W.skip ?_ | with_reducible refine W.endb ?_ | with_reducible refine W.block ?_ | refine W.exit rfl ?_ | refine z_l (kk := ?_) | refine z_f (kk := ?_) | refine z_M (kk := ?_) | refine z_m (kk := ?_) | refine z_e (kk := ?_) | refine z_E (kk := ?_) | refine z_d (kk := ?_) | refine z_I (kk := fun _ => ?_) | refine z_J (kk := fun _ => ?_) | refine z_K (kk := fun _ => ?_) | refine z_L (kk := fun _ => ?_) | refine z_T (kk := ?_) | refine z_F (kk := ?_) | refine z_k (kk := fun _ _ _ _ _ => ?_) | refine z_w (kk := fun _ _ => ?_) | refine z_s (kk := fun _ _ _ _ => ?_) | refine z_D (kk := ?_) | refine z_g (kk := ?_) | refine z_h (kk := ?_)))
          rw [← hevc]
          generalize hcj : (kid l i).getD t 0 = cj at *
          obtain ⟨j, rfl⟩ := Int.eq_ofNat_of_zero_le (show 0 ≤ cj by omega)
          refine Ops.call rfl rfl rfl rfl rfl (ih j lo' hi' w3 _ (by omega) (by omega) hlh hT3) (fun r w4 hR => ?_)
          obtain ⟨ov2, rfl, hI⟩ := hR
          simp only [kidsS] at hq1 hq2 hq3
          generalize srS l dep f j lo' hi' = X at *
          have hO4 := hO.below hI.bel
          have hlq := hgood.len
          have hql : acc.length ≤ Q.2.2.length := by rw [← hq3, List.length_append]; omega
          clear hO
          (repeat (first | with_reducible refine W.seq ?_ | with_reducible refine Ops.nil ?_ | with_reducible refine W.region ?_ | refine z_p (kk := ?_) | refine z_a (kk := ?_) | refine z_y (kk := ?_) | refine z_n (kk := ?_) | refine z_u (kk := ?_) | with_reducible refine W.skip ?_ | with_reducible refine W.endb ?_ | with_reducible refine W.block ?_ | refine W.exit rfl ?_ | refine z_l (kk := ?_) | refine z_f (kk := ?_) | refine z_M (kk := ?_) | refine z_m (kk := ?_) | refine z_e (kk := ?_) | refine z_E (kk := ?_) | refine z_d (kk := ?_) | refine z_I (kk := fun _ => ?_) | refine z_J (kk := fun _ => ?_) | refine z_K (kk := fun _ => ?_) | refine z_L (kk := fun _ => ?_) | refine z_T (kk := ?_) | refine z_F (kk := ?_) | refine z_k (kk := fun _ _ _ _ _ => ?_) | refine z_w (kk := fun _ _ => ?_) | refine z_s (kk := fun _ _ _ _ => ?_) | refine z_D (kk := ?_) | refine z_g (kk := ?_) | refine z_h (kk := ?_)))
          refine Ops.appO (enc := Value.int .i64) (0 : Int) rfl rfl rfl rfl rfl rfl rfl rfl rfl rfl hO4 hI.sl (Below.refl _ _) (fun _ => rfl) (by omega) (fun v' w5 hO5 k5 hn5 => ?_)
          clear hO4
          (repeat (first | with_reducible refine W.seq ?_ | with_reducible refine Ops.nil ?_ | with_reducible refine W.region ?_ | refine z_p (kk := ?_) | refine z_a (kk := ?_) | refine z_y (kk := ?_) | refine z_n (kk := ?_) | refine z_u (kk := ?_) | with_reducible refine W.skip ?_ | with_reducible refine W.endb ?_ | with_reducible refine W.block ?_ | refine W.exit rfl ?_ | refine z_l (kk := ?_) | refine z_f (kk := ?_) | refine z_M (kk := ?_) | refine z_m (kk := ?_) | refine z_e (kk := ?_) | refine z_E (kk := ?_) | refine z_d (kk := ?_) | refine z_I (kk := fun _ => ?_) | refine z_J (kk := fun _ => ?_) | refine z_K (kk := fun _ => ?_) | refine z_L (kk := fun _ => ?_) | refine z_T (kk := ?_) | refine z_F (kk := ?_) | refine z_k (kk := fun _ _ _ _ _ => ?_) | refine z_w (kk := fun _ _ => ?_) | refine z_s (kk := fun _ _ _ _ => ?_) | refine z_D (kk := ?_) | refine z_g (kk := ?_) | refine z_h (kk := ?_)))
          cases hev : evB dep i with
          | true =>
            simp only [hev, if_true] at hq1 hq2 hq3
            refine W.condT rfl (by first | rfl | assumption | (simp only [bnf] <;> omega) | (simp only [*, bnf]; done) | fail) ?_
            (repeat (first | with_reducible refine W.seq ?_ | with_reducible refine Ops.nil ?_ | with_reducible refine W.region ?_ | refine z_p (kk := ?_) | refine z_a (kk := ?_) | refine z_y (kk := ?_) | refine z_n (kk := ?_) | refine z_u (kk := ?_) | with_reducible refine W.skip ?_ | with_reducible refine W.endb ?_ | with_reducible refine W.block ?_ | refine W.exit rfl ?_ | refine z_l (kk := ?_) | refine z_f (kk := ?_) | refine z_M (kk := ?_) | refine z_m (kk := ?_) | refine z_e (kk := ?_) | refine z_E (kk := ?_) | refine z_d (kk := ?_) | refine z_I (kk := fun _ => ?_) | refine z_J (kk := fun _ => ?_) | refine z_K (kk := fun _ => ?_) | refine z_L (kk := fun _ => ?_) | refine z_T (kk := ?_) | refine z_F (kk := ?_) | refine z_k (kk := fun _ _ _ _ _ => ?_) | refine z_w (kk := fun _ _ => ?_) | refine z_s (kk := fun _ _ _ _ => ?_) | refine z_D (kk := ?_) | refine z_g (kk := ?_) | refine z_h (kk := ?_)))
            by_cases hge : hi' ≤ max lo' X.1
            · rw [if_pos hge] at hq1 hq2 hq3
              exact W.endl ⟨_, _, ⟨⟨t + 1, _, _, _, _, rfl, by omega, rfl, hO5, .inr ⟨hge, hq1, hq2, hq3⟩⟩, by omega⟩, (by repeat (first | exact trivial | refine And.intro rfl ?_))⟩
            · rw [if_neg hge] at hq1 hq2 hq3
              exact W.endl ⟨_, _, ⟨⟨t + 1, _, _, _, _, rfl, by omega, rfl, hO5, .inl ⟨by omega, hq1, hq2, by rw [List.append_assoc]; exact hq3⟩⟩, by omega⟩, (by repeat (first | exact trivial | refine And.intro rfl ?_))⟩
          | false =>
            simp only [hev, Bool.false_eq_true, if_false] at hq1 hq2 hq3
            refine W.condF rfl (by first | rfl | assumption | (simp only [bnf] <;> omega) | (simp only [*, bnf]; done) | fail) ?_
            (repeat (first | with_reducible refine W.seq ?_ | with_reducible refine Ops.nil ?_ | with_reducible refine W.region ?_ | refine z_p (kk := ?_) | refine z_a (kk := ?_) | refine z_y (kk := ?_) | refine z_n (kk := ?_) | refine z_u (kk := ?_) | with_reducible refine W.skip ?_ | with_reducible refine W.endb ?_ | with_reducible refine W.block ?_ | refine W.exit rfl ?_ | refine z_l (kk := ?_) | refine z_f (kk := ?_) | refine z_M (kk := ?_) | refine z_m (kk := ?_) | refine z_e (kk := ?_) | refine z_E (kk := ?_) | refine z_d (kk := ?_) | refine z_I (kk := fun _ => ?_) | refine z_J (kk := fun _ => ?_) | refine z_K (kk := fun _ => ?_) | refine z_L (kk := fun _ => ?_) | refine z_T (kk := ?_) | refine z_F (kk := ?_) | refine z_k (kk := fun _ _ _ _ _ => ?_) | refine z_w (kk := fun _ _ => ?_) | refine z_s (kk := fun _ _ _ _ => ?_) | refine z_D (kk := ?_) | refine z_g (kk := ?_) | refine z_h (kk := ?_)))
            by_cases hge : min hi' X.1 ≤ lo'
            · rw [if_pos hge] at hq1 hq2 hq3
              exact W.endl ⟨_, _, ⟨⟨t + 1, _, _, _, _, rfl, by omega, rfl, hO5, .inr ⟨hge, hq1, hq2, hq3⟩⟩, by omega⟩, (by repeat (first | exact trivial | refine And.intro rfl ?_))⟩
            · rw [if_neg hge] at hq1 hq2 hq3
              exact W.endl ⟨_, _, ⟨⟨t + 1, _, _, _, _, rfl, by omega, rfl, hO5, .inl ⟨by omega, hq1, hq2, by rw [List.append_assoc]; exact hq3⟩⟩, by omega⟩, (by repeat (first | exact trivial | refine And.intro rfl ?_))⟩
        · omega
      · have hfin : lo' = Q.1 ∧ hi' = Q.2.1 ∧ acc = Q.2.2 := by
          rcases hq with ⟨h, hq1, hq2, hq3⟩ | ⟨_, h⟩
          · have : t = (kid l i).length := by omega
            subst this
            rw [List.drop_length] at hq1 hq2 hq3
            simp only [kidsS, List.append_nil] at hq1 hq2 hq3
            exact ⟨hq1, hq2, hq3⟩
          · exact h
        obtain ⟨rfl, rfl, rfl⟩ := hfin
        by_cases htl : t < (kid l i).length
        · have hlh : ¬ Q.1 < Q.2.1 := fun h => hgo ⟨htl, h⟩
          (repeat (first | with_reducible refine W.seq ?_ | with_reducible refine Ops.nil ?_ | with_reducible refine W.region ?_ | refine z_p (kk := ?_) | refine z_a (kk := ?_) | refine z_y (kk := ?_) | refine z_n (kk := ?_) | refine z_u (kk := ?_) | with_reducible refine W.skip ?_ | with_reducible refine W.endb ?_ | with_reducible refine W.block ?_ | refine W.exit rfl ?_ | refine z_l (kk := ?_) | refine z_f (kk := ?_) | refine z_M (kk := ?_) | refine z_m (kk := ?_) | refine z_e (kk := ?_) | refine z_E (kk := ?_) | refine z_d (kk := ?_) | refine z_I (kk := fun _ => ?_) | refine z_J (kk := fun _ => ?_) | refine z_K (kk := fun _ => ?_) | refine z_L (kk := fun _ => ?_) | refine z_T (kk := ?_) | refine z_F (kk := ?_) | refine z_k (kk := fun _ _ _ _ _ => ?_) | refine z_w (kk := fun _ _ => ?_) | refine z_s (kk := fun _ _ _ _ => ?_) | refine z_D (kk := ?_) | refine z_g (kk := ?_) | refine z_h (kk := ?_)))
          refine W.condF rfl (by first | rfl | assumption | (simp only [bnf] <;> omega) | (simp only [*, bnf]; done) | fail) ?_
          (repeat (first | with_reducible refine W.seq ?_ | with_reducible refine Ops.nil ?_ | with_reducible refine W.region ?_ | refine z_p (kk := ?_) | refine z_a (kk := ?_) | refine z_y (kk := ?_) | refine z_n (kk := ?_) | refine z_u (kk := ?_) | with_reducible refine W.skip ?_ | with_reducible refine W.endb ?_ | with_reducible refine W.block ?_ | refine W.exit rfl ?_ | refine z_l (kk := ?_) | refine z_f (kk := ?_) | refine z_M (kk := ?_) | refine z_m (kk := ?_) | refine z_e (kk := ?_) | refine z_E (kk := ?_) | refine z_d (kk := ?_) | refine z_I (kk := fun _ => ?_) | refine z_J (kk := fun _ => ?_) | refine z_K (kk := fun _ => ?_) | refine z_L (kk := fun _ => ?_) | refine z_T (kk := ?_) | refine z_F (kk := ?_) | refine z_k (kk := fun _ _ _ _ _ => ?_) | refine z_w (kk := fun _ _ => ?_) | refine z_s (kk := fun _ _ _ _ => ?_) | refine z_D (kk := ?_) | refine z_g (kk := ?_) | refine z_h (kk := ?_)))
          cases hev : evB dep i with
          | true =>
            refine W.condT rfl (by first | rfl | assumption | (simp only [bnf] <;> omega) | (simp only [*, bnf]; done) | fail) ?_
            (repeat (first | with_reducible refine W.seq ?_ | with_reducible refine Ops.nil ?_ | with_reducible refine W.region ?_ | refine z_p (kk := ?_) | refine z_a (kk := ?_) | refine z_y (kk := ?_) | refine z_n (kk := ?_) | refine z_u (kk := ?_) | with_reducible refine W.skip ?_ | with_reducible refine W.endb ?_ | with_reducible refine W.block ?_ | refine W.exit rfl ?_ | refine z_l (kk := ?_) | refine z_f (kk := ?_) | refine z_M (kk := ?_) | refine z_m (kk := ?_) | refine z_e (kk := ?_) | refine z_E (kk := ?_) | refine z_d (kk := ?_) | refine z_I (kk := fun _ => ?_) | refine z_J (kk := fun _ => ?_) | refine z_K (kk := fun _ => ?_) | refine z_L (kk := fun _ => ?_) | refine z_T (kk := ?_) | refine z_F (kk := ?_) | refine z_k (kk := fun _ _ _ _ _ => ?_) | refine z_w (kk := fun _ _ => ?_) | refine z_s (kk := fun _ _ _ _ => ?_) | refine z_D (kk := ?_) | refine z_g (kk := ?_) | refine z_h (kk := ?_)))
            exact W.fret rfl ⟨_, rfl, hO⟩
          | false =>
            refine W.condF rfl (by first | rfl | assumption | (simp only [bnf] <;> omega) | (simp only [*, bnf]; done) | fail) ?_
            (repeat (first | with_reducible refine W.seq ?_ | with_reducible refine Ops.nil ?_ | with_reducible refine W.region ?_ | refine z_p (kk := ?_) | refine z_a (kk := ?_) | refine z_y (kk := ?_) | refine z_n (kk := ?_) | refine z_u (kk := ?_) | with_reducible refine W.skip ?_ | with_reducible refine W.endb ?_ | with_reducible refine W.block ?_ | refine W.exit rfl ?_ | refine z_l (kk := ?_) | refine z_f (kk := ?_) | refine z_M (kk := ?_) | refine z_m (kk := ?_) | refine z_e (kk := ?_) | refine z_E (kk := ?_) | refine z_d (kk := ?_) | refine z_I (kk := fun _ => ?_) | refine z_J (kk := fun _ => ?_) | refine z_K (kk := fun _ => ?_) | refine z_L (kk := fun _ => ?_) | refine z_T (kk := ?_) | refine z_F (kk := ?_) | refine z_k (kk := fun _ _ _ _ _ => ?_) | refine z_w (kk := fun _ _ => ?_) | refine z_s (kk := fun _ _ _ _ => ?_) | refine z_D (kk := ?_) | refine z_g (kk := ?_) | refine z_h (kk := ?_)))
            exact W.fret rfl ⟨_, rfl, hO⟩
        · (repeat (first | with_reducible refine W.seq ?_ | with_reducible refine Ops.nil ?_ | with_reducible refine W.region ?_ | refine z_p (kk := ?_) | refine z_a (kk := ?_) | refine z_y (kk := ?_) | refine z_n (kk := ?_) | refine z_u (kk := ?_) | with_reducible refine W.skip ?_ | with_reducible refine W.endb ?_ | with_reducible refine W.block ?_ | refine W.exit rfl ?_ | refine z_l (kk := ?_) | refine z_f (kk := ?_) | refine z_M (kk := ?_) | refine z_m (kk := ?_) | refine z_e (kk := ?_) | refine z_E (kk := ?_) | refine z_d (kk := ?_) | refine z_I (kk := fun _ => ?_) | refine z_J (kk := fun _ => ?_) | refine z_K (kk := fun _ => ?_) | refine z_L (kk := fun _ => ?_) | refine z_T (kk := ?_) | refine z_F (kk := ?_) | refine z_k (kk := fun _ _ _ _ _ => ?_) | refine z_w (kk := fun _ _ => ?_) | refine z_s (kk := fun _ _ _ _ => ?_) | refine z_D (kk := ?_) | refine z_g (kk := ?_) | refine z_h (kk := ?_)))
          refine W.condF rfl (by first | rfl | assumption | (simp only [bnf] <;> omega) | (simp only [*, bnf]; done) | fail) ?_
          (repeat (first | with_reducible refine W.seq ?_ | with_reducible refine Ops.nil ?_ | with_reducible refine W.region ?_ | refine z_p (kk := ?_) | refine z_a (kk := ?_) | refine z_y (kk := ?_) | refine z_n (kk := ?_) | refine z_u (kk := ?_) | with_reducible refine W.skip ?_ | with_reducible refine W.endb ?_ | with_reducible refine W.block ?_ | refine W.exit rfl ?_ | refine z_l (kk := ?_) | refine z_f (kk := ?_) | refine z_M (kk := ?_) | refine z_m (kk := ?_) | refine z_e (kk := ?_) | refine z_E (kk := ?_) | refine z_d (kk := ?_) | refine z_I (kk := fun _ => ?_) | refine z_J (kk := fun _ => ?_) | refine z_K (kk := fun _ => ?_) | refine z_L (kk := fun _ => ?_) | refine z_T (kk := ?_) | refine z_F (kk := ?_) | refine z_k (kk := fun _ _ _ _ _ => ?_) | refine z_w (kk := fun _ _ => ?_) | refine z_s (kk := fun _ _ _ _ => ?_) | refine z_D (kk := ?_) | refine z_g (kk := ?_) | refine z_h (kk := ?_)))
          cases hev : evB dep i with
          | true =>
            refine W.condT rfl (by first | rfl | assumption | (simp only [bnf] <;> omega) | (simp only [*, bnf]; done) | fail) ?_
            (repeat (first | with_reducible refine W.seq ?_ | with_reducible refine Ops.nil ?_ | with_reducible refine W.region ?_ | refine z_p (kk := ?_) | refine z_a (kk := ?_) | refine z_y (kk := ?_) | refine z_n (kk := ?_) | refine z_u (kk := ?_) | with_reducible refine W.skip ?_ | with_reducible refine W.endb ?_ | with_reducible refine W.block ?_ | refine W.exit rfl ?_ | refine z_l (kk := ?_) | refine z_f (kk := ?_) | refine z_M (kk := ?_) | refine z_m (kk := ?_) | refine z_e (kk := ?_) | refine z_E (kk := ?_) | refine z_d (kk := ?_) | refine z_I (kk := fun _ => ?_) | refine z_J (kk := fun _ => ?_) | refine z_K (kk := fun _ => ?_) | refine z_L (kk := fun _ => ?_) | refine z_T (kk := ?_) | refine z_F (kk := ?_) | refine z_k (kk := fun _ _ _ _ _ => ?_) | refine z_w (kk := fun _ _ => ?_) | refine z_s (kk := fun _ _ _ _ => ?_) | refine z_D (kk := ?_) | refine z_g (kk := ?_) | refine z_h (kk := ?_)))
            exact W.fret rfl ⟨_, rfl, hO⟩
          | false =>
            refine W.condF rfl (by first | rfl | assumption | (simp only [bnf] <;> omega) | (simp only [*, bnf]; done) | fail) ?_
            (repeat (first | with_reducible refine W.seq ?_ | with_reducible refine Ops.nil ?_ | with_reducible refine W.region ?_ | refine z_p (kk := ?_) | refine z_a (kk := ?_) | refine z_y (kk := ?_) | refine z_n (kk := ?_) | refine z_u (kk := ?_) | with_reducible refine W.skip ?_ | with_reducible refine W.endb ?_ | with_reducible refine W.block ?_ | refine W.exit rfl ?_ | refine z_l (kk := ?_) | refine z_f (kk := ?_) | refine z_M (kk := ?_) | refine z_m (kk := ?_) | refine z_e (kk := ?_) | refine z_E (kk := ?_) | refine z_d (kk := ?_) | refine z_I (kk := fun _ => ?_) | refine z_J (kk := fun _ => ?_) | refine z_K (kk := fun _ => ?_) | refine z_L (kk := fun _ => ?_) | refine z_T (kk := ?_) | refine z_F (kk := ?_) | refine z_k (kk := fun _ _ _ _ _ => ?_) | refine z_w (kk := fun _ _ => ?_) | refine z_s (kk := fun _ _ _ _ => ?_) | refine z_D (kk := ?_) | refine z_g (kk := ?_) | refine z_h (kk := ?_)))
            exact W.fret rfl ⟨_, rfl, hO⟩
theorem refSearch_c {w : World} {v : Value} {l : List Nd} {dep : List Int} (hTr : TreeM w v l) (hT : TF l dep) :
    Calls Try.prog 45 #[v] w (Ret fun r w' => ∃ ov, r = .tuple #[.int .i64 (srS l dep l.length 0 (-Go.Proofs.Ytdiljpnfochndaa.HP.far) Go.Proofs.Ytdiljpnfochndaa.HP.far).1, ov] ∧ OI 3 (Value.int .i64) w w' ov (srS l dep l.length 0 (-Go.Proofs.Ytdiljpnfochndaa.HP.far) Go.Proofs.Ytdiljpnfochndaa.HP.far).2) := by
  obtain ⟨At, ct, rfl⟩ := hTr.sl
  have hn1 := hT.n1
  have h0 := hT.dbd 0
  have he0 : evB dep ((0 : Nat) : Int) = true := by
    have : dep.getD 0 0 = 0 := by omega
    unfold evB rd
    rw [show (((0 : Nat) : Int)).toNat = 0 from rfl, this]
    rfl
  refine calls_W (vs := [_]) Try.func45 rfl (by kernel_rfl) rfl ?_
  (repeat (first | with_reducible refine W.seq ?_ | with_reducible refine Ops.nil ?_ | with_reducible refine W.region ?_ | refine z_p (kk := ?_) | refine z_a (kk := ?_) | refine z_y (kk := ?_) | refine z_n (kk := ?_) | refine z_u (kk := ?_) | with_reducible refine W.skip ?_ | with_reducible refine W.endb ?_ | with_reducible refine W.block ?_ | refine W.exit rfl ?_ | refine z_l (kk := ?_) | refine z_f (kk := ?_) | refine z_M (kk := ?_) | refine z_m (kk := ?_) | refine z_e (kk := ?_) | refine z_E (kk := ?_) | refine z_d (kk := ?_) | refine z_I (kk := fun _ => ?_) | refine z_J (kk := fun _ => ?_) | refine z_K (kk := fun _ => ?_) | refine z_L (kk := fun _ => ?_) | refine z_T (kk := ?_) | refine z_F (kk := ?_) | refine z_k (kk := fun _ _ _ _ _ => ?_) | refine z_w (kk := fun _ _ => ?_) | refine z_s (kk := fun _ _ _ _ => ?_) | refine z_D (kk := ?_) | refine z_g (kk := ?_) | refine z_h (kk := ?_)))
  have hc := refsearch_c hT l.length 0 (-1000000) 1000000 w _ (by omega) (by omega) (by omega) hTr
  rw [he0, show (((0 : Nat) : Int)) = 0 from rfl, Go.Proofs.Ytdiljpnfochndaa.HP.srS_far hT] at hc
  refine Ops.call rfl rfl rfl rfl rfl hc (fun r w2 hR => ?_)
  obtain ⟨ov, rfl, hO⟩ := hR
  (repeat (first | with_reducible refine W.seq ?_ | with_reducible refine Ops.nil ?_ | with_reducible refine W.region ?_ | refine z_p (kk := ?_) | refine z_a (kk := ?_) | refine z_y (kk := ?_) | refine z_n (kk := ?_) | refine z_u (kk := ?_) | with_reducible refine W.skip ?_ | with_reducible refine W.endb ?_ | with_reducible refine W.block ?_ | refine W.exit rfl ?_ | refine z_l (kk := ?_) | refine z_f (kk := ?_) | refine z_M (kk := ?_) | refine z_m (kk := ?_) | refine z_e (kk := ?_) | refine z_E (kk := ?_) | refine z_d (kk := ?_) | refine z_I (kk := fun _ => ?_) | refine z_J (kk := fun _ => ?_) | refine z_K (kk := fun _ => ?_) | refine z_L (kk := fun _ => ?_) | refine z_T (kk := ?_) | refine z_F (kk := ?_) | refine z_k (kk := fun _ _ _ _ _ => ?_) | refine z_w (kk := fun _ _ => ?_) | refine z_s (kk := fun _ _ _ _ => ?_) | refine z_D (kk := ?_) | refine z_g (kk := ?_) | refine z_h (kk := ?_)))
  exact W.fret rfl ⟨ov, rfl, hO⟩
end Go.Proofs.Ytdiljpnfochndaa
namespace Go.Proofs.Ytdiljpnfochndaa
open Go Go.RowKit Go.Proofs.Ytdiljpnfochndaa.VW
open Go.Proofs.Ytdiljpnfochndaa.HP (Nd kid wor leafB rd evB gameOf gameOf_TF TF TK ValP k_ PlsP PLN PlanS far srS)
attribute [local irreducible] W Ops OrdA VW.Ord OrdX
set_option maxHeartbeats 4000000 in
theorem searchesLaw_c {w : World} {mv : Value} {l : List Nd} (hm : ArgT w mv l) :
    Calls Try.prog 10 #[mv] w (Ret fun r w' => r = .bool true ∧ Below w.heap.size w w') := by
  refine calls_W (vs := [_]) Try.func10 rfl (by kernel_rfl) rfl ?_
  (repeat (first | with_reducible refine W.seq ?_ | with_reducible refine Ops.nil ?_ | with_reducible refine W.region ?_ | refine z_p (kk := ?_) | refine z_a (kk := ?_) | refine z_y (kk := ?_) | refine z_n (kk := ?_) | refine z_u (kk := ?_) | with_reducible refine W.skip ?_ | with_reducible refine W.endb ?_ | with_reducible refine W.block ?_ | refine W.exit rfl ?_ | refine z_l (kk := ?_) | refine z_f (kk := ?_) | refine z_M (kk := ?_) | refine z_m (kk := ?_) | refine z_e (kk := ?_) | refine z_E (kk := ?_) | refine z_d (kk := ?_) | refine z_I (kk := fun _ => ?_) | refine z_J (kk := fun _ => ?_) | refine z_K (kk := fun _ => ?_) | refine z_L (kk := fun _ => ?_) | refine z_T (kk := ?_) | refine z_F (kk := ?_) | refine z_k (kk := fun _ _ _ _ _ => ?_) | refine z_w (kk := fun _ _ => ?_) | refine z_s (kk := fun _ _ _ _ => ?_) | refine z_D (kk := ?_) | refine z_g (kk := ?_) | refine z_h (kk := ?_)))
  refine Ops.call rfl rfl rfl rfl rfl (tree_c hm) (fun tv w1 hR => ?_)
  obtain ⟨hb1, hT1⟩ := hR
  have hlen := treeM_len l
  have hkl : ∀ i : Nat, i < (treeM l).length → (kid (treeM l) i).length ≤ 1000 := fun i _ => by have := treeM_kid l i; omega
  generalize treeM l = t at *
  obtain ⟨At, ct, rfl⟩ := hT1.sl
  clear hm
  (repeat (first | with_reducible refine W.seq ?_ | with_reducible refine Ops.nil ?_ | with_reducible refine W.region ?_ | refine z_p (kk := ?_) | refine z_a (kk := ?_) | refine z_y (kk := ?_) | refine z_n (kk := ?_) | refine z_u (kk := ?_) | with_reducible refine W.skip ?_ | with_reducible refine W.endb ?_ | with_reducible refine W.block ?_ | refine W.exit rfl ?_ | refine z_l (kk := ?_) | refine z_f (kk := ?_) | refine z_M (kk := ?_) | refine z_m (kk := ?_) | refine z_e (kk := ?_) | refine z_E (kk := ?_) | refine z_d (kk := ?_) | refine z_I (kk := fun _ => ?_) | refine z_J (kk := fun _ => ?_) | refine z_K (kk := fun _ => ?_) | refine z_L (kk := fun _ => ?_) | refine z_T (kk := ?_) | refine z_F (kk := ?_) | refine z_k (kk := fun _ _ _ _ _ => ?_) | refine z_w (kk := fun _ _ => ?_) | refine z_s (kk := fun _ _ _ _ => ?_) | refine z_D (kk := ?_) | refine z_g (kk := ?_) | refine z_h (kk := ?_)))
  refine Ops.call rfl rfl rfl rfl rfl (search_c hT1 (by omega)) (fun r w2 hR => ?_)
  obtain ⟨hb2, hR2⟩ := hR
  have hb02 := Below.via hb1 hb2
  have hT2 := hT1.below hb2
  unfold SearchR at hR2
  cases hg : gameOf t with
  | none =>
    rw [hg] at hR2
    replace hR2 : r = .tuple #[.int .i64 0, .slice none 0 0, .int .i64 2] := hR2
    subst hR2
    (repeat (first | with_reducible refine W.seq ?_ | with_reducible refine Ops.nil ?_ | with_reducible refine W.region ?_ | refine z_p (kk := ?_) | refine z_a (kk := ?_) | refine z_y (kk := ?_) | refine z_n (kk := ?_) | refine z_u (kk := ?_) | with_reducible refine W.skip ?_ | with_reducible refine W.endb ?_ | with_reducible refine W.block ?_ | refine W.exit rfl ?_ | refine z_l (kk := ?_) | refine z_f (kk := ?_) | refine z_M (kk := ?_) | refine z_m (kk := ?_) | refine z_e (kk := ?_) | refine z_E (kk := ?_) | refine z_d (kk := ?_) | refine z_I (kk := fun _ => ?_) | refine z_J (kk := fun _ => ?_) | refine z_K (kk := fun _ => ?_) | refine z_L (kk := fun _ => ?_) | refine z_T (kk := ?_) | refine z_F (kk := ?_) | refine z_k (kk := fun _ _ _ _ _ => ?_) | refine z_w (kk := fun _ _ => ?_) | refine z_s (kk := fun _ _ _ _ => ?_) | refine z_D (kk := ?_) | refine z_g (kk := ?_) | refine z_h (kk := ?_)))
    refine Ops.call rfl rfl rfl rfl rfl (planF_c hT2 (by omega)) (fun r w3 hR => ?_)
    obtain ⟨hb3, hR3⟩ := hR
    have hb03 := Below.via hb02 hb3
    have hT3 := hT2.below hb3
    rw [hg] at hR3
    obtain rfl := hR3
    (repeat (first | with_reducible refine W.seq ?_ | with_reducible refine Ops.nil ?_ | with_reducible refine W.region ?_ | refine z_p (kk := ?_) | refine z_a (kk := ?_) | refine z_y (kk := ?_) | refine z_n (kk := ?_) | refine z_u (kk := ?_) | with_reducible refine W.skip ?_ | with_reducible refine W.endb ?_ | with_reducible refine W.block ?_ | refine W.exit rfl ?_ | refine z_l (kk := ?_) | refine z_f (kk := ?_) | refine z_M (kk := ?_) | refine z_m (kk := ?_) | refine z_e (kk := ?_) | refine z_E (kk := ?_) | refine z_d (kk := ?_) | refine z_I (kk := fun _ => ?_) | refine z_J (kk := fun _ => ?_) | refine z_K (kk := fun _ => ?_) | refine z_L (kk := fun _ => ?_) | refine z_T (kk := ?_) | refine z_F (kk := ?_) | refine z_k (kk := fun _ _ _ _ _ => ?_) | refine z_w (kk := fun _ _ => ?_) | refine z_s (kk := fun _ _ _ _ => ?_) | refine z_D (kk := ?_) | refine z_g (kk := ?_) | refine z_h (kk := ?_)))
    refine Ops.call rfl rfl rfl rfl rfl (plans_c hT3 (by omega)) (fun r w4 hR => ?_)
    obtain ⟨hb4, hR4⟩ := hR
    have hb04 := Below.via hb03 hb4
    have hT4 := hT3.below hb4
    rw [hg] at hR4
    obtain rfl := hR4
    (repeat (first | with_reducible refine W.seq ?_ | with_reducible refine Ops.nil ?_ | with_reducible refine W.region ?_ | refine z_p (kk := ?_) | refine z_a (kk := ?_) | refine z_y (kk := ?_) | refine z_n (kk := ?_) | refine z_u (kk := ?_) | with_reducible refine W.skip ?_ | with_reducible refine W.endb ?_ | with_reducible refine W.block ?_ | refine W.exit rfl ?_ | refine z_l (kk := ?_) | refine z_f (kk := ?_) | refine z_M (kk := ?_) | refine z_m (kk := ?_) | refine z_e (kk := ?_) | refine z_E (kk := ?_) | refine z_d (kk := ?_) | refine z_I (kk := fun _ => ?_) | refine z_J (kk := fun _ => ?_) | refine z_K (kk := fun _ => ?_) | refine z_L (kk := fun _ => ?_) | refine z_T (kk := ?_) | refine z_F (kk := ?_) | refine z_k (kk := fun _ _ _ _ _ => ?_) | refine z_w (kk := fun _ _ => ?_) | refine z_s (kk := fun _ _ _ _ => ?_) | refine z_D (kk := ?_) | refine z_g (kk := ?_) | refine z_h (kk := ?_)))
    refine Ops.call rfl rfl rfl rfl rfl (refTree_c hT4 hkl) (fun r w5 hR => ?_)
    obtain ⟨rfl, hb5⟩ := hR
    have hb05 := Below.via hb04 hb5
    rw [hg]
    (repeat (first | with_reducible refine W.seq ?_ | with_reducible refine Ops.nil ?_ | with_reducible refine W.region ?_ | refine z_p (kk := ?_) | refine z_a (kk := ?_) | refine z_y (kk := ?_) | refine z_n (kk := ?_) | refine z_u (kk := ?_) | with_reducible refine W.skip ?_ | with_reducible refine W.endb ?_ | with_reducible refine W.block ?_ | refine W.exit rfl ?_ | refine z_l (kk := ?_) | refine z_f (kk := ?_) | refine z_M (kk := ?_) | refine z_m (kk := ?_) | refine z_e (kk := ?_) | refine z_E (kk := ?_) | refine z_d (kk := ?_) | refine z_I (kk := fun _ => ?_) | refine z_J (kk := fun _ => ?_) | refine z_K (kk := fun _ => ?_) | refine z_L (kk := fun _ => ?_) | refine z_T (kk := ?_) | refine z_F (kk := ?_) | refine z_k (kk := fun _ _ _ _ _ => ?_) | refine z_w (kk := fun _ _ => ?_) | refine z_s (kk := fun _ _ _ _ => ?_) | refine z_D (kk := ?_) | refine z_g (kk := ?_) | refine z_h (kk := ?_)))
    refine W.condT rfl (by first | rfl | assumption | (simp only [bnf] <;> omega) | (simp only [*, bnf]; done) | fail) ?_
    (repeat (first | with_reducible refine W.seq ?_ | with_reducible refine Ops.nil ?_ | with_reducible refine W.region ?_ | refine z_p (kk := ?_) | refine z_a (kk := ?_) | refine z_y (kk := ?_) | refine z_n (kk := ?_) | refine z_u (kk := ?_) | with_reducible refine W.skip ?_ | with_reducible refine W.endb ?_ | with_reducible refine W.block ?_ | refine W.exit rfl ?_ | refine z_l (kk := ?_) | refine z_f (kk := ?_) | refine z_M (kk := ?_) | refine z_m (kk := ?_) | refine z_e (kk := ?_) | refine z_E (kk := ?_) | refine z_d (kk := ?_) | refine z_I (kk := fun _ => ?_) | refine z_J (kk := fun _ => ?_) | refine z_K (kk := fun _ => ?_) | refine z_L (kk := fun _ => ?_) | refine z_T (kk := ?_) | refine z_F (kk := ?_) | refine z_k (kk := fun _ _ _ _ _ => ?_) | refine z_w (kk := fun _ _ => ?_) | refine z_s (kk := fun _ _ _ _ => ?_) | refine z_D (kk := ?_) | refine z_g (kk := ?_) | refine z_h (kk := ?_)))
    refine Ops.call rfl rfl rfl rfl rfl (awake_c _) (fun r w6 hR => ?_)
    obtain ⟨rfl, hb6⟩ := hR
    (repeat (first | with_reducible refine W.seq ?_ | with_reducible refine Ops.nil ?_ | with_reducible refine W.region ?_ | refine z_p (kk := ?_) | refine z_a (kk := ?_) | refine z_y (kk := ?_) | refine z_n (kk := ?_) | refine z_u (kk := ?_) | with_reducible refine W.skip ?_ | with_reducible refine W.endb ?_ | with_reducible refine W.block ?_ | refine W.exit rfl ?_ | refine z_l (kk := ?_) | refine z_f (kk := ?_) | refine z_M (kk := ?_) | refine z_m (kk := ?_) | refine z_e (kk := ?_) | refine z_E (kk := ?_) | refine z_d (kk := ?_) | refine z_I (kk := fun _ => ?_) | refine z_J (kk := fun _ => ?_) | refine z_K (kk := fun _ => ?_) | refine z_L (kk := fun _ => ?_) | refine z_T (kk := ?_) | refine z_F (kk := ?_) | refine z_k (kk := fun _ _ _ _ _ => ?_) | refine z_w (kk := fun _ _ => ?_) | refine z_s (kk := fun _ _ _ _ => ?_) | refine z_D (kk := ?_) | refine z_g (kk := ?_) | refine z_h (kk := ?_)))
    exact W.fret rfl ⟨rfl, Below.via hb05 hb6⟩
  | some dep =>
    have hTF := gameOf_TF hg
    have hn1 := hTF.n1
    rw [hg] at hR2
    replace hR2 : ∃ v, r = .tuple #[.int .i64 (srS t dep t.length 0 (-far) far).1, v, .int .i64 0] ∧ FInv w1 w2 v (srS t dep t.length 0 (-far) far).2 := hR2
    obtain ⟨sv, rfl, hI2⟩ := hR2
    have hs2 : SlI w2 sv _ := own_sl hI2.own
    obtain ⟨As, cs, rfl⟩ := Sl.sl hs2
    clear hI2
    (repeat (first | with_reducible refine W.seq ?_ | with_reducible refine Ops.nil ?_ | with_reducible refine W.region ?_ | refine z_p (kk := ?_) | refine z_a (kk := ?_) | refine z_y (kk := ?_) | refine z_n (kk := ?_) | refine z_u (kk := ?_) | with_reducible refine W.skip ?_ | with_reducible refine W.endb ?_ | with_reducible refine W.block ?_ | refine W.exit rfl ?_ | refine z_l (kk := ?_) | refine z_f (kk := ?_) | refine z_M (kk := ?_) | refine z_m (kk := ?_) | refine z_e (kk := ?_) | refine z_E (kk := ?_) | refine z_d (kk := ?_) | refine z_I (kk := fun _ => ?_) | refine z_J (kk := fun _ => ?_) | refine z_K (kk := fun _ => ?_) | refine z_L (kk := fun _ => ?_) | refine z_T (kk := ?_) | refine z_F (kk := ?_) | refine z_k (kk := fun _ _ _ _ _ => ?_) | refine z_w (kk := fun _ _ => ?_) | refine z_s (kk := fun _ _ _ _ => ?_) | refine z_D (kk := ?_) | refine z_g (kk := ?_) | refine z_h (kk := ?_)))
    refine Ops.call rfl rfl rfl rfl rfl (planF_c hT2 (by omega)) (fun r w3 hR => ?_)
    obtain ⟨hb3, hR3⟩ := hR
    have hb03 := Below.via hb02 hb3
    have hT3 := hT2.below hb3
    have hs3 := Sl.below hs2 hb3
    rw [hg] at hR3
    obtain ⟨vs, u, f, out, hvs, hP, rfl, hI3⟩ := hR3
    have hu3 : SlI w3 u out := hI3.sl
    obtain ⟨Au, cu, rfl⟩ := Sl.sl hu3
    clear hI3
    (repeat (first | with_reducible refine W.seq ?_ | with_reducible refine Ops.nil ?_ | with_reducible refine W.region ?_ | refine z_p (kk := ?_) | refine z_a (kk := ?_) | refine z_y (kk := ?_) | refine z_n (kk := ?_) | refine z_u (kk := ?_) | with_reducible refine W.skip ?_ | with_reducible refine W.endb ?_ | with_reducible refine W.block ?_ | refine W.exit rfl ?_ | refine z_l (kk := ?_) | refine z_f (kk := ?_) | refine z_M (kk := ?_) | refine z_m (kk := ?_) | refine z_e (kk := ?_) | refine z_E (kk := ?_) | refine z_d (kk := ?_) | refine z_I (kk := fun _ => ?_) | refine z_J (kk := fun _ => ?_) | refine z_K (kk := fun _ => ?_) | refine z_L (kk := fun _ => ?_) | refine z_T (kk := ?_) | refine z_F (kk := ?_) | refine z_k (kk := fun _ _ _ _ _ => ?_) | refine z_w (kk := fun _ _ => ?_) | refine z_s (kk := fun _ _ _ _ => ?_) | refine z_D (kk := ?_) | refine z_g (kk := ?_) | refine z_h (kk := ?_)))
    refine Ops.call rfl rfl rfl rfl rfl (plans_c hT3 (by omega)) (fun r w4 hR => ?_)
    obtain ⟨hb4, hR4⟩ := hR
    have hb04 := Below.via hb03 hb4
    have hT4 := hT3.below hb4
    have hs4 := Sl.below hs3 hb4
    have hu4 := Sl.below hu3 hb4
    rw [hg] at hR4
    obtain ⟨vs2, ps, hvs2, hps, rfl⟩ := hR4
    obtain rfl := hvs2.uniq hTF hvs
    (repeat (first | with_reducible refine W.seq ?_ | with_reducible refine Ops.nil ?_ | with_reducible refine W.region ?_ | refine z_p (kk := ?_) | refine z_a (kk := ?_) | refine z_y (kk := ?_) | refine z_n (kk := ?_) | refine z_u (kk := ?_) | with_reducible refine W.skip ?_ | with_reducible refine W.endb ?_ | with_reducible refine W.block ?_ | refine W.exit rfl ?_ | refine z_l (kk := ?_) | refine z_f (kk := ?_) | refine z_M (kk := ?_) | refine z_m (kk := ?_) | refine z_e (kk := ?_) | refine z_E (kk := ?_) | refine z_d (kk := ?_) | refine z_I (kk := fun _ => ?_) | refine z_J (kk := fun _ => ?_) | refine z_K (kk := fun _ => ?_) | refine z_L (kk := fun _ => ?_) | refine z_T (kk := ?_) | refine z_F (kk := ?_) | refine z_k (kk := fun _ _ _ _ _ => ?_) | refine z_w (kk := fun _ _ => ?_) | refine z_s (kk := fun _ _ _ _ => ?_) | refine z_D (kk := ?_) | refine z_g (kk := ?_) | refine z_h (kk := ?_)))
    refine Ops.call rfl rfl rfl rfl rfl (refTree_c hT4 hkl) (fun r w5 hR => ?_)
    obtain ⟨rfl, hb5⟩ := hR
    have hb05 := Below.via hb04 hb5
    have hT5 := hT4.below hb5
    have hs5 := Sl.below hs4 hb5
    have hu5 := Sl.below hu4 hb5
    rw [hg]
    clear hT1 hT2 hT3 hT4 hs2 hs3 hs4 hu3 hu4
    (repeat (first | with_reducible refine W.seq ?_ | with_reducible refine Ops.nil ?_ | with_reducible refine W.region ?_ | refine z_p (kk := ?_) | refine z_a (kk := ?_) | refine z_y (kk := ?_) | refine z_n (kk := ?_) | refine z_u (kk := ?_) | with_reducible refine W.skip ?_ | with_reducible refine W.endb ?_ | with_reducible refine W.block ?_ | refine W.exit rfl ?_ | refine z_l (kk := ?_) | refine z_f (kk := ?_) | refine z_M (kk := ?_) | refine z_m (kk := ?_) | refine z_e (kk := ?_) | refine z_E (kk := ?_) | refine z_d (kk := ?_) | refine z_I (kk := fun _ => ?_) | refine z_J (kk := fun _ => ?_) | refine z_K (kk := fun _ => ?_) | refine z_L (kk := fun _ => ?_) | refine z_T (kk := ?_) | refine z_F (kk := ?_) | refine z_k (kk := fun _ _ _ _ _ => ?_) | refine z_w (kk := fun _ _ => ?_) | refine z_s (kk := fun _ _ _ _ => ?_) | refine z_D (kk := ?_) | refine z_g (kk := ?_) | refine z_h (kk := ?_)))
    refine W.condF rfl (by first | rfl | assumption | (simp only [bnf] <;> omega) | (simp only [*, bnf]; done) | fail) ?_
    (repeat (first | with_reducible refine W.seq ?_ | with_reducible refine Ops.nil ?_ | with_reducible refine W.region ?_ | refine z_p (kk := ?_) | refine z_a (kk := ?_) | refine z_y (kk := ?_) | refine z_n (kk := ?_) | refine z_u (kk := ?_) | with_reducible refine W.skip ?_ | with_reducible refine W.endb ?_ | with_reducible refine W.block ?_ | refine W.exit rfl ?_ | refine z_l (kk := ?_) | refine z_f (kk := ?_) | refine z_M (kk := ?_) | refine z_m (kk := ?_) | refine z_e (kk := ?_) | refine z_E (kk := ?_) | refine z_d (kk := ?_) | refine z_I (kk := fun _ => ?_) | refine z_J (kk := fun _ => ?_) | refine z_K (kk := fun _ => ?_) | refine z_L (kk := fun _ => ?_) | refine z_T (kk := ?_) | refine z_F (kk := ?_) | refine z_k (kk := fun _ _ _ _ _ => ?_) | refine z_w (kk := fun _ _ => ?_) | refine z_s (kk := fun _ _ _ _ => ?_) | refine z_D (kk := ?_) | refine z_g (kk := ?_) | refine z_h (kk := ?_)))
    refine Ops.call rfl rfl rfl rfl rfl (refSearch_c hT5 hTF) (fun r w6 hR => ?_)
    obtain ⟨ov, rfl, hI6⟩ := hR
    have hb6 := hI6.bel
    have hb06 := Below.via hb05 hb6
    have hT6 := hT5.below hb6
    have hs6 := Sl.below hs5 hb6
    have hu6 := Sl.below hu5 hb6
    have ho6 : SlI w6 ov _ := hI6.sl
    obtain ⟨Ao, co, rfl⟩ := Sl.sl ho6
    clear hI6 hT5 hs5 hu5
    (repeat (first | with_reducible refine W.seq ?_ | with_reducible refine Ops.nil ?_ | with_reducible refine W.region ?_ | refine z_p (kk := ?_) | refine z_a (kk := ?_) | refine z_y (kk := ?_) | refine z_n (kk := ?_) | refine z_u (kk := ?_) | with_reducible refine W.skip ?_ | with_reducible refine W.endb ?_ | with_reducible refine W.block ?_ | refine W.exit rfl ?_ | refine z_l (kk := ?_) | refine z_f (kk := ?_) | refine z_M (kk := ?_) | refine z_m (kk := ?_) | refine z_e (kk := ?_) | refine z_E (kk := ?_) | refine z_d (kk := ?_) | refine z_I (kk := fun _ => ?_) | refine z_J (kk := fun _ => ?_) | refine z_K (kk := fun _ => ?_) | refine z_L (kk := fun _ => ?_) | refine z_T (kk := ?_) | refine z_F (kk := ?_) | refine z_k (kk := fun _ _ _ _ _ => ?_) | refine z_w (kk := fun _ _ => ?_) | refine z_s (kk := fun _ _ _ _ => ?_) | refine z_D (kk := ?_) | refine z_g (kk := ?_) | refine z_h (kk := ?_)))
    refine Ops.call rfl rfl rfl rfl rfl (ints_c hs6 ho6) (fun r w7 hR => ?_)
    obtain ⟨rfl, hb7⟩ := hR
    have hb07 := Below.via hb06 hb7
    have hT7 := hT6.below hb7
    have hu7 := Sl.below hu6 hb7
    rw [decide_eq_true rfl]
    (repeat (first | with_reducible refine W.seq ?_ | with_reducible refine Ops.nil ?_ | with_reducible refine W.region ?_ | refine z_p (kk := ?_) | refine z_a (kk := ?_) | refine z_y (kk := ?_) | refine z_n (kk := ?_) | refine z_u (kk := ?_) | with_reducible refine W.skip ?_ | with_reducible refine W.endb ?_ | with_reducible refine W.block ?_ | refine W.exit rfl ?_ | refine z_l (kk := ?_) | refine z_f (kk := ?_) | refine z_M (kk := ?_) | refine z_m (kk := ?_) | refine z_e (kk := ?_) | refine z_E (kk := ?_) | refine z_d (kk := ?_) | refine z_I (kk := fun _ => ?_) | refine z_J (kk := fun _ => ?_) | refine z_K (kk := fun _ => ?_) | refine z_L (kk := fun _ => ?_) | refine z_T (kk := ?_) | refine z_F (kk := ?_) | refine z_k (kk := fun _ _ _ _ _ => ?_) | refine z_w (kk := fun _ _ => ?_) | refine z_s (kk := fun _ _ _ _ => ?_) | refine z_D (kk := ?_) | refine z_g (kk := ?_) | refine z_h (kk := ?_)))
    refine Ops.call rfl rfl rfl rfl rfl (refPlan_c hT7 hTF) (fun r w8 hR => ?_)
    obtain ⟨vs3, f3, out3, hvs3, hP3, hI8⟩ := hR
    obtain rfl := hvs3.uniq hTF hvs
    obtain rfl := Go.Proofs.Ytdiljpnfochndaa.HP.PlanS.uniq hTF hP3 hP
    have hb8 := hI8.bel
    have hb08 := Below.via hb07 hb8
    have hT8 := hT7.below hb8
    (repeat (first | with_reducible refine W.seq ?_ | with_reducible refine Ops.nil ?_ | with_reducible refine W.region ?_ | refine z_p (kk := ?_) | refine z_a (kk := ?_) | refine z_y (kk := ?_) | refine z_n (kk := ?_) | refine z_u (kk := ?_) | with_reducible refine W.skip ?_ | with_reducible refine W.endb ?_ | with_reducible refine W.block ?_ | refine W.exit rfl ?_ | refine z_l (kk := ?_) | refine z_f (kk := ?_) | refine z_M (kk := ?_) | refine z_m (kk := ?_) | refine z_e (kk := ?_) | refine z_E (kk := ?_) | refine z_d (kk := ?_) | refine z_I (kk := fun _ => ?_) | refine z_J (kk := fun _ => ?_) | refine z_K (kk := fun _ => ?_) | refine z_L (kk := fun _ => ?_) | refine z_T (kk := ?_) | refine z_F (kk := ?_) | refine z_k (kk := fun _ _ _ _ _ => ?_) | refine z_w (kk := fun _ _ => ?_) | refine z_s (kk := fun _ _ _ _ => ?_) | refine z_D (kk := ?_) | refine z_g (kk := ?_) | refine z_h (kk := ?_)))
    refine Ops.call rfl rfl rfl rfl rfl (ints_c (Sl.below hu7 hb8) hI8.sl) (fun r w9 hR => ?_)
    obtain ⟨rfl, hb9⟩ := hR
    have hb09 := Below.via hb08 hb9
    have hT9 := hT8.below hb9
    rw [decide_eq_true rfl]
    (repeat (first | with_reducible refine W.seq ?_ | with_reducible refine Ops.nil ?_ | with_reducible refine W.region ?_ | refine z_p (kk := ?_) | refine z_a (kk := ?_) | refine z_y (kk := ?_) | refine z_n (kk := ?_) | refine z_u (kk := ?_) | with_reducible refine W.skip ?_ | with_reducible refine W.endb ?_ | with_reducible refine W.block ?_ | refine W.exit rfl ?_ | refine z_l (kk := ?_) | refine z_f (kk := ?_) | refine z_M (kk := ?_) | refine z_m (kk := ?_) | refine z_e (kk := ?_) | refine z_E (kk := ?_) | refine z_d (kk := ?_) | refine z_I (kk := fun _ => ?_) | refine z_J (kk := fun _ => ?_) | refine z_K (kk := fun _ => ?_) | refine z_L (kk := fun _ => ?_) | refine z_T (kk := ?_) | refine z_F (kk := ?_) | refine z_k (kk := fun _ _ _ _ _ => ?_) | refine z_w (kk := fun _ _ => ?_) | refine z_s (kk := fun _ _ _ _ => ?_) | refine z_D (kk := ?_) | refine z_g (kk := ?_) | refine z_h (kk := ?_)))
    refine Ops.call rfl rfl rfl rfl rfl (refPlans_c hT9 hTF) (fun r w10 hR => ?_)
    obtain ⟨hb10, vs4, ps4, hvs4, hps4, rfl⟩ := hR
    obtain rfl := hvs4.uniq hTF hvs
    obtain rfl := hps4.uniq hTF hps
    have hb010 := Below.via hb09 hb10
    (repeat (first | with_reducible refine W.seq ?_ | with_reducible refine Ops.nil ?_ | with_reducible refine W.region ?_ | refine z_p (kk := ?_) | refine z_a (kk := ?_) | refine z_y (kk := ?_) | refine z_n (kk := ?_) | refine z_u (kk := ?_) | with_reducible refine W.skip ?_ | with_reducible refine W.endb ?_ | with_reducible refine W.block ?_ | refine W.exit rfl ?_ | refine z_l (kk := ?_) | refine z_f (kk := ?_) | refine z_M (kk := ?_) | refine z_m (kk := ?_) | refine z_e (kk := ?_) | refine z_E (kk := ?_) | refine z_d (kk := ?_) | refine z_I (kk := fun _ => ?_) | refine z_J (kk := fun _ => ?_) | refine z_K (kk := fun _ => ?_) | refine z_L (kk := fun _ => ?_) | refine z_T (kk := ?_) | refine z_F (kk := ?_) | refine z_k (kk := fun _ _ _ _ _ => ?_) | refine z_w (kk := fun _ _ => ?_) | refine z_s (kk := fun _ _ _ _ => ?_) | refine z_D (kk := ?_) | refine z_g (kk := ?_) | refine z_h (kk := ?_)))
    refine Ops.call rfl rfl rfl rfl rfl (awake_c _) (fun r w11 hR => ?_)
    obtain ⟨rfl, hb11⟩ := hR
    (repeat (first | with_reducible refine W.seq ?_ | with_reducible refine Ops.nil ?_ | with_reducible refine W.region ?_ | refine z_p (kk := ?_) | refine z_a (kk := ?_) | refine z_y (kk := ?_) | refine z_n (kk := ?_) | refine z_u (kk := ?_) | with_reducible refine W.skip ?_ | with_reducible refine W.endb ?_ | with_reducible refine W.block ?_ | refine W.exit rfl ?_ | refine z_l (kk := ?_) | refine z_f (kk := ?_) | refine z_M (kk := ?_) | refine z_m (kk := ?_) | refine z_e (kk := ?_) | refine z_E (kk := ?_) | refine z_d (kk := ?_) | refine z_I (kk := fun _ => ?_) | refine z_J (kk := fun _ => ?_) | refine z_K (kk := fun _ => ?_) | refine z_L (kk := fun _ => ?_) | refine z_T (kk := ?_) | refine z_F (kk := ?_) | refine z_k (kk := fun _ _ _ _ _ => ?_) | refine z_w (kk := fun _ _ => ?_) | refine z_s (kk := fun _ _ _ _ => ?_) | refine z_D (kk := ?_) | refine z_g (kk := ?_) | refine z_h (kk := ?_)))
    exact W.fret rfl ⟨rfl, Below.via hb010 hb11⟩
end Go.Proofs.Ytdiljpnfochndaa
/- Within a fence: rounds of a range over a function, and functions that call yield. -/
namespace Go.Proofs.Ytdiljpnfochndaa.VW
open Go Go.RowKit
def Fw : Option Nat → Fence
  | none => Fence.wide
  | some l => Fence.wide.inRound l
theorem Fw_fn (r : Option Nat) (f : FuncId) : (Fw r).fn f := by cases r <;> exact trivial
theorem Fw_dep (r : Option Nat) : (Fw r).depth = none := by cases r <;> rfl
theorem Fw_calls (r : Option Nat) {m : Nat} {P : Program} {f : FuncId} {args : Array Value} {w : World} {R : Ending → World → Prop} (h : Calls P f args w R) : CallsIn (Fw r) m P f args w R := by
  cases r with
  | none => exact callsIn_wide.2 h
  | some l => exact (callsIn_wide.2 h).inRound l
theorem Fw_rows (r : Option Nat) {m : Nat} {P : Program} {row : String} {args : Array Value} {w : World} {R : Value → World → Prop} (h : Rows P row args w R) : RowsIn (Fw r) m P row args w R := by
  cases r with
  | none => exact fun c cs _ => let ⟨v, w', r, s⟩ := h c cs; ⟨v, w', r, stepsIn_wide.2 s⟩
  | some l => exact fun c cs _ => let ⟨v, w', r, s⟩ := h c cs; ⟨v, w', r, stepsIn_wide.2 s⟩
def noDefer (ops : List Oper) : Bool := ops.all fun o => match o.op with | .defer _ => false | _ => true
theorem noDefer_at {ops : List Oper} (h : noDefer ops = true) {o : Oper} (ho : o ∈ ops) (c : Call) : o.op ≠ .defer c := by
  intro e
  have := List.all_eq_true.1 h o ho
  rw [e] at this
  cases this
theorem opIn {r : Option Nat} {m : Nat} {P : Program} {o : Oper} {a : Act} {w : World} {K K' : Act → World → Prop} {Q Q' : Exit → Act → World → Prop} (hd : ∀ c, o.op ≠ .defer c) (hK : ∀ a w, K a w → K' a w) (hp : ∀ c a w, ¬ Q (.panic c) a w) (ho : ¬ LetsOut Q)
    (h : o.wp P a w K Q) : o.wpIn (Fw r) m P a w K' Q' := by
  refine ⟨fun f _ => Fw_fn r f, ?_⟩
  rw [Oper.semAt_eq _ _ _ hd]
  unfold Oper.wp at h
  generalize (execOp a.eval o).run P w = res at *
  have hdep : (Fw r).depth.isSome = true → 1 ≤ m := fun h => by rw [Fw_dep] at h; cases h
  cases res with
  | ok nx w' =>
    cases nx <;> simp only [Oper.upon] at h <;> simp only [Oper.uponIn]
    case value v => exact hK _ _ h
    case skip => exact hK _ _ h
    case defer d => exact hK _ _ h
    case enter f args =>
      refine ⟨hdep, Fw_calls r (h.mono fun e w'' he => ?_)⟩
      cases e with
      | returned v => exact hK _ _ he
      | panicked ch => exact (hp _ _ _ he).elim
      | outgrown => exact (ho he).elim
    case row rw args => exact ⟨hdep, Fw_rows r (h.mono fun v w'' hv => hK _ _ hv)⟩
  | halt x w' =>
    cases x <;> simp only [Oper.upon] at h
    exact (hp _ _ _ h).elim
section
variable {P : Program} {n : Nat} {ds : List Deferred} {ρ : E} {w : World} {r : Option Nat}
/-- A stretch of a region in the text's order. -/
theorem listIn {all : Array Oper} {Q Q' : Exit → Act → World → Prop} {rest : List Oper} (hp : ∀ c a w, ¬ Q (.panic c) a w) (ho : ¬ LetsOut Q) (hr : ∀ a w, Q .normal a w → wpListIn (Fw r) 0 P all Q' rest a w) :
    ∀ (pre : List Oper) (a : Act) (w : World), noDefer pre = true → wpList P all Q pre a w → wpListIn (Fw r) 0 P all Q' (pre ++ rest) a w
  | [], a, w, _, h => hr a w h
  | o :: l, a, w, hd, h => by
    have hd' : noDefer l = true := by unfold noDefer at *; simp only [List.all_cons, Bool.and_eq_true] at hd; exact hd.2
    have ih := fun a w => listIn hp ho hr l a w hd'
    show wpListIn (Fw r) 0 P all Q' (o :: (l ++ rest)) a w
    unfold wpList at h
    unfold wpListIn
    split
    · rename_i hw
      rw [if_pos hw] at h
      exact h.elim (fun h => opIn (noDefer_at hd (by simp)) ih hp ho h) (fun h => (ho h.2).elim)
    · rename_i hw
      rw [if_neg hw] at h
      exact ⟨fun f _ => Fw_fn r f, ih _ _ h⟩
theorem anyIn {all : Array Oper} {Q Q' : Exit → Act → World → Prop} (hp : ∀ c a w, ¬ Q (.panic c) a w) (ho : ¬ LetsOut Q) (hq : ∀ a w, Q .normal a w → Q' .normal a w) (hd : noDefer all.toList = true) :
    ∀ (m : Nat) (L : Array Bool) (a : Act) (w : World), wpAny P .any all Q m L a w → wpAnyIn (Fw r) 0 P .any all Q' m L a w
  | 0, L, a, w, h => ⟨h.1, hq _ _ h.2⟩
  | m + 1, L, a, w, h => by
    refine ⟨fun e => hq _ _ (h.1 e), fun i hi => ?_⟩
    have := h.2 i hi
    unfold wpOp at this
    unfold wpOpIn
    split
    · rename_i e; rw [e] at this; exact anyIn hp ho hq hd m _ _ _ this
    · rename_i o e
      rw [e] at this
      simp only at this
      split
      · rename_i hw
        rw [if_pos hw] at this
        rcases this with h | ⟨_, h⟩
        · refine opIn (noDefer_at hd ?_) (fun a w => anyIn hp ho hq hd m _ a w) hp ho h
          exact Array.mem_toList_iff.2 (Array.mem_of_getElem? e)
        · exact (ho h).elim
      · rename_i hw
        rw [if_neg hw] at this
        exact ⟨fun f _ => Fw_fn r f, anyIn hp ho hq hd m _ _ _ this⟩
def LI (n : Nat) (ds : List Deferred) (Q : Post) (e : Exit) (a : Act) (w : World) : Prop := ∃ ρ', Rep n a ρ' ∧ a.defers = ds ∧ Q e ρ' w
/-- A code's walk within a fence. -/
def Wi (r : Option Nat) (P : Program) (n : Nat) (ds : List Deferred) (c : Code) (Q : Post) (ρ : E) (w : World) : Prop :=
  ∀ a, Rep n a ρ → a.defers = ds → c.wpIn (Fw r) 0 P (LI n ds Q) a w
theorem Wi.mono {c : Code} {Q Q' : Post} (h : Wi r P n ds c Q ρ w) (hj : ∀ e ρ w, Q e ρ w → Q' e ρ w) : Wi r P n ds c Q' ρ w :=
  fun a hr hd => wpIn_mono (h a hr hd) fun e a w ⟨ρ', h1, h2, h3⟩ => ⟨ρ', h1, h2, hj _ _ _ h3⟩
theorem Wi.seq {x y : Code} {Q : Post} (h : Wi r P n ds x (fun e ρ w => match e with | .normal => Wi r P n ds y Q ρ w | e => Q e ρ w) ρ w) : Wi r P n ds (.seq x y) Q ρ w := by
  intro a hr hd
  refine wpIn_seq (wpIn_mono (h a hr hd) ?_)
  rintro e a w ⟨ρ', h1, h2, h3⟩
  cases e with
  | normal => exact h3 a h1 h2
  | _ => exact ⟨ρ', h1, h2, h3⟩
theorem Wi.skip {Q : Post} (h : Q .normal ρ w) : Wi r P n ds .skip Q ρ w := fun a hr hd => wpIn_skip ⟨ρ, hr, hd, h⟩
theorem Wi.exit {id : Nat} {Q : Post} (h : Q (.exit id) ρ w) : Wi r P n ds (.exit id) Q ρ w := fun a hr hd => wpIn_exit ⟨ρ, hr, hd, h⟩
theorem Wi.cond {c : Operand} {x y : Code} {t : Bool} {Q : Post} (hc : ev ρ c = some (.bool t)) (h1 : t = true → Wi r P n ds x Q ρ w) (h2 : t = false → Wi r P n ds y Q ρ w) : Wi r P n ds (.cond c x y) Q ρ w :=
  fun a hr hd => wpIn_cond_split (hr.ev hc) (fun e => h1 e a hr hd) (fun e => h2 e a hr hd)
theorem Wi.block {id : Nat} {c : Code} {Q : Post} (h : Wi r P n ds c (fun e ρ w => match e with | .exit i => if i = id then Q .normal ρ w else Q (.exit i) ρ w | e => Q e ρ w) ρ w) : Wi r P n ds (.block id c) Q ρ w := by
  intro a hr hd
  refine wpIn_block (wpIn_mono (h a hr hd) ?_)
  rintro e a w ⟨ρ', h1, h2, h3⟩
  cases e with
  | exit i =>
    have h3' : if i = id then Q .normal ρ' w else Q (.exit i) ρ' w := h3
    show if i = id then _ else _
    split
    · rename_i e; rw [if_pos e] at h3'; exact ⟨ρ', h1, h2, h3'⟩
    · rename_i e; rw [if_neg e] at h3'; exact ⟨ρ', h1, h2, h3'⟩
  | _ => exact ⟨ρ', h1, h2, h3⟩
theorem Wi.loop {c : Code} {Q : Post} (I : Nat → E → World → Prop) {m : Nat} (h0 : I m ρ w)
    (round : ∀ m ρ w, I m ρ w → Wi r P n ds c (fun e ρ1 w1 => match e with | .normal => ∃ m2 ρ2, (I m2 ρ2 w1 ∧ m2 < m) ∧ Sub ρ2 ρ1 | e => Q e ρ1 w1) ρ w) :
    Wi r P n ds (.loop c) Q ρ w := by
  intro a hr hd
  have key : ∀ m a w, (∃ ρ, Rep n a ρ ∧ a.defers = ds ∧ I m ρ w) → (Code.loop c).wpIn (Fw r) 0 P (LI n ds Q) a w := by
    intro m a w ha
    refine wpIn_loop (P := P) (fun a w => ∃ m ρ, Rep n a ρ ∧ a.defers = ds ∧ I m ρ w) (fun a w => Classical.epsilon fun m => (∃ ρ, Rep n a ρ ∧ a.defers = ds ∧ I m ρ w) ∧ ∀ m', (∃ ρ, Rep n a ρ ∧ a.defers = ds ∧ I m' ρ w) → m ≤ m') ⟨m, ha⟩ ?_
    rintro a w ⟨m1, hm1⟩
    have hmin : ∀ a w, (∃ m, ∃ ρ, Rep n a ρ ∧ a.defers = ds ∧ I m ρ w) → (fun m => (∃ ρ, Rep n a ρ ∧ a.defers = ds ∧ I m ρ w) ∧ ∀ m', (∃ ρ, Rep n a ρ ∧ a.defers = ds ∧ I m' ρ w) → m ≤ m') (Classical.epsilon fun m => (∃ ρ, Rep n a ρ ∧ a.defers = ds ∧ I m ρ w) ∧ ∀ m', (∃ ρ, Rep n a ρ ∧ a.defers = ds ∧ I m' ρ w) → m ≤ m') := by
      intro a w hex
      refine Classical.epsilon_spec (p := fun m => (∃ ρ, Rep n a ρ ∧ a.defers = ds ∧ I m ρ w) ∧ ∀ m', (∃ ρ, Rep n a ρ ∧ a.defers = ds ∧ I m' ρ w) → m ≤ m') ?_
      obtain ⟨m, hm⟩ := hex
      induction m using Nat.strongRecOn with
      | _ m ih =>
        by_cases hlt : ∃ m' < m, ∃ ρ, Rep n a ρ ∧ a.defers = ds ∧ I m' ρ w
        · obtain ⟨m', h1, h2⟩ := hlt
          exact ih m' h1 h2
        · refine ⟨m, hm, fun m' h' => ?_⟩
          by_cases h'' : m ≤ m'
          · exact h''
          · exact absurd ⟨m', by omega, h'⟩ hlt
    obtain ⟨⟨ρ1, hr1, hd1, hI1⟩, hle⟩ := hmin a w ⟨m1, hm1⟩
    refine wpIn_mono (round _ ρ1 w hI1 a hr1 hd1) fun e a2 w2 hl => ?_
    obtain ⟨ρ2, hr2, hd2, hl⟩ := hl
    cases e with
    | normal =>
      obtain ⟨m3, ρ3, ⟨hI3, hlt⟩, hs3⟩ : ∃ m2 ρ2', (I m2 ρ2' w2 ∧ m2 < _) ∧ Sub ρ2' ρ2 := hl
      have hex : ∃ ρ, Rep n a2 ρ ∧ a2.defers = ds ∧ I m3 ρ w2 := ⟨ρ3, hr2.sub hs3, hd2, hI3⟩
      exact ⟨⟨m3, hex⟩, Nat.lt_of_le_of_lt ((hmin a2 w2 ⟨m3, hex⟩).2 m3 hex) hlt⟩
    | _ => exact ⟨ρ2, hr2, hd2, hl⟩
  exact key m a w ⟨ρ, hr, hd, h0⟩
theorem Wi.sub {c : Code} {Q : Post} {ρ' : E} (hs : Sub ρ' ρ) (h : Wi r P n ds c Q ρ' w) : Wi r P n ds c Q ρ w := fun a hr hd => h a (hr.sub hs) hd
/-- Operations of a region within a fence. -/
def OpsI (r : Option Nat) (P : Program) (n : Nat) (ds : List Deferred) (all : Array Oper) (Q : Post) (l : List Oper) (ρ : E) (w : World) : Prop :=
  ∀ a, Rep n a ρ → a.defers = ds → wpListIn (Fw r) 0 P all (LI n ds Q) l a w
theorem Wi.region {id : Nat} {l : List Oper} {Q : Post} (h : OpsI r P n ds l.toArray Q l ρ w) : Wi r P n ds (.region id l.toArray false) Q ρ w :=
  fun a hr hd => wpIn_region_lit (h a hr hd)
theorem OpsI.nil {all : Array Oper} {Q : Post} (h : Q .normal ρ w) : OpsI r P n ds all Q [] ρ w := fun a hr hd => wpListIn_nil ⟨ρ, hr, hd, h⟩
/-- A stretch without yield. -/
theorem OpsI.pre {all : Array Oper} {Q : Post} {rest : List Oper} (pre : List Oper) (hi : (pre.all fun o => dOk n o.dst) = true) (hd : noDefer pre = true)
    (h : Ops none P n ds all [.lp (OpsI r P n ds all Q rest)] (fun _ _ _ => False) pre ρ w) : OpsI r P n ds all Q (pre ++ rest) ρ w := by
  intro a hr hds
  exact listIn (fun c a w h => by obtain ⟨_, _, h⟩ := h; exact h.2) (fun h => by obtain ⟨_, _, _, _, h⟩ := h; exact h.2) (fun a w h => by obtain ⟨ρ', h1, h2, h3⟩ := h; exact h3 a h1 h2) pre a w hd (h hi a hr hds)
theorem OpsI.split {all : Array Oper} {Q : Post} {l pre rest : List Oper} (m : Nat) (h1 : l.take m = pre) (h2 : l.drop m = rest) (hi : (pre.all fun o => dOk n o.dst) = true) (hd : noDefer pre = true)
    (h : Ops none P n ds all [.lp (OpsI r P n ds all Q rest)] (fun _ _ _ => False) pre ρ w) : OpsI r P n ds all Q l ρ w := by
  have := OpsI.pre (r := r) (Q := Q) (rest := rest) pre hi hd h
  rw [← h1, ← h2, List.take_append_drop] at this
  exact this
theorem OpsI.sub {all : Array Oper} {Q : Post} {l : List Oper} {ρ' : E} (hs : Sub ρ' ρ) (h : OpsI r P n ds all Q l ρ' w) : OpsI r P n ds all Q l ρ w := fun a hr hd => h a (hr.sub hs) hd
theorem Wi.regionN {id : Nat} {l : List Oper} {Q : Post} (hi : (l.all fun o => dOk n o.dst) = true) (hd : noDefer l = true) (h : Ops none P n ds l.toArray [.lp (Q .normal)] (fun _ _ _ => False) l ρ w) : Wi r P n ds (.region id l.toArray false) Q ρ w := by
  refine Wi.region ?_
  have := OpsI.pre (r := r) (rest := []) (Q := Q) (all := l.toArray) l hi hd (ρ := ρ) (w := w) (P := P) (ds := ds) (fun hh a hr hds => wpList_mono (fun e a w h => by
    obtain ⟨ρ', h1, h2⟩ := h
    cases e with
    | normal => exact ⟨ρ', h1, LiftD.mk h2.1 (OpsI.nil h2.2)⟩
    | ret => obtain ⟨_, _, h3⟩ := h2; exact h3.elim
    | _ => exact h2.2.elim) _ _ _ (h hh a hr hds))
  rwa [List.append_nil] at this
/-- A guarded call of yield. -/
theorem OpsI.yield {all : Array Oper} {Q : Post} {rest : List Oper} {o : Oper} {d j g : Nat} {x y : Operand} {l : Nat} {v : Value} {ts : Array TypeId}
    (ho : o.op = .call { callee := .value x, args := #[y], argTypes := ts }) (hdst : o.dst = some d) (hlt : Nat.blt d n = true) (hg : o.guard = some (j, true)) (hj : (all[j]?).bind (·.dst) = some g) (hv : look ρ g = some (.bool true))
    (hx : ev ρ x = some (.func (.yield l) #[] #[])) (hy : ev ρ y = some v)
    (hyld : YieldAt (Fw r) 0 P l #[v] w (fun e w' => e = .returned (.bool true) ∧ OpsI r P n ds all Q rest ((d, .bool true) :: ρ) w')) : OpsI r P n ds all Q (o :: rest) ρ w := by
  intro a hr hd
  unfold wpListIn
  have hyy := yielded_of hr hj hv
  rw [if_pos (by simp [Region.wanted, hg, hyy])]
  refine ⟨fun f _ => Fw_fn r f, ?_⟩
  rw [Oper.semAt_eq _ _ _ (by rw [ho]; simp)]
  obtain ⟨fn, tmps, assign, body, hrun, hround⟩ := hyld
  have he : (execOp a.eval o).run P w = .ok (.round l fn tmps assign body) w := by
    have q : #[y].map a.eval = #[v] := by simp only [List.map_toArray, List.map_cons, List.map_nil, hr.ev hy]
    rw [← hrun]
    simp only [execOp, ho, resolve, q]
    simp [hr.ev hx, Deferred.ofValue, invoke]
  rw [he, Oper.uponIn_round]
  refine ⟨fun h => (by rw [Fw_dep] at h; cases h), RoundIn.mono hround fun e w' he => ?_⟩
  obtain ⟨rfl, h⟩ := he
  have hput : Rep n (a.put o.dst (.bool true)) ((d, .bool true) :: ρ) := by
    have := hr.put (d := o.dst) (by rw [hdst]; exact hlt) (.bool true)
    rw [hdst] at this ⊢
    exact this
  exact h _ hput (by rw [hdst]; exact hd)
theorem ordA_any {Φ : Post} {k : List It} {ops : Array Oper} (s : Nat) (π : List (Nat × Nat)) (hi : (ops.toList.all fun o => dOk n o.dst) = true) (hs : Region.noSelect ops = true) (hlen : π.length = ops.size) (hc : chkA ops s π (List.replicate π.length false) = true) (hΦ : ∀ c ρ w, ¬ Φ (.panic c) ρ w)
    (h : OrdA P n ds ops k Φ s (fun w' => Below w.heap.size w w') π (List.replicate π.length false) ρ) (a : Act) (hr : Rep n a ρ) (hd : a.defers = ds) : wpAny P .any ops (lift n ds (Qof P n ds Φ k)) ops.size (Array.replicate ops.size false) a w.drew := by
  have := wpAny_of_A _ _ _ (h hc hs hi (by rw [List.toArray_replicate]; exact Cl.start _) hΦ a hr hd) w.drew (Kp.below (kp_drew w) (Nat.le_refl _) (fun _ _ e => e))
  rw [← hlen]
  rw [List.toArray_replicate] at this
  exact this
theorem Wi.ordA {id : Nat} {ops : Array Oper} {Q : Post} (s : Nat) (π : List (Nat × Nat)) (hm : P.follows .mixedOrders = true) (hi : (ops.toList.all fun o => dOk n o.dst) = true) (hdf : noDefer ops.toList = true) (hs : Region.noSelect ops = true) (hlen : π.length = ops.size) (hc : chkA ops s π (List.replicate π.length false) = true)
    (h : OrdA P n ds ops [.lp (Q .normal)] (fun _ _ _ => False) s (fun w' => Below w.heap.size w w') π (List.replicate π.length false) ρ) : Wi r P n ds (.region id ops true) Q ρ w := by
  intro a hr hd
  refine wpIn_region_any hm ?_
  exact anyIn (fun c a w h => by obtain ⟨_, _, h⟩ := h; exact h.2) (fun h => by obtain ⟨_, _, _, _, h⟩ := h; exact h.2) (fun a w h => by obtain ⟨ρ', h1, h2, h3⟩ := h; exact ⟨ρ', h1, h2, h3⟩) hdf _ _ _ _ (ordA_any s π hi hs hlen hc (fun _ _ _ h => h) h a hr hd)
/-- A function that may call yield, from its first instruction on. -/
theorem callsIn_Wi {f : FuncId} {fn : Func} {c : Code} {vs : List Value} {R : Value → World → Prop} (hf : P.funcs[f]? = some fn) (hb : fn.body = some c) (hs : Nat.ble vs.length fn.ntmps = true)
    (h : Wi none P fn.ntmps [] c (fun e ρ w => (e = .normal ∨ e = .ret) ∧ ∃ us, resT fn.results.toList ρ = some us ∧ R (resV us) w) (argE vs 0) w) : CallsIn (Fw none) 0 P f vs.toArray w (Ret R) := by
  have hs' : vs.length ≤ fn.ntmps := Nat.le_of_ble_eq_true hs
  refine callsIn_of_wp hf hb trivial ?_
  have hrep : Rep fn.ntmps { tmps := vs.toArray ++ Array.replicate (fn.ntmps - vs.toArray.size) undef, defers := [] } (argE vs 0) := by
    refine ⟨by simp; omega, fun t v hl => ?_⟩
    obtain ⟨_, h2⟩ := look_argE vs 0 t v hl
    have ht : t < vs.length := by
      rw [Nat.sub_zero] at h2
      exact (List.getElem?_eq_some_iff.1 h2).1
    rw [Nat.sub_zero] at h2
    simp [Array.getD_eq_getD_getElem?, Array.getElem?_append, ht, h2]
    rw [List.getElem?_eq_getElem ht] at h2
    simpa using h2
  refine wpIn_mono (h _ hrep rfl) ?_
  rintro e a w' ⟨ρ', hr', hd', he, us, hu, hR⟩
  rcases he with rfl | rfl
  · exact ⟨hd', _, run_results hr' hu, _, rfl, hR⟩
  · exact ⟨hd', _, run_results hr' hu, _, rfl, hR⟩
end
end Go.Proofs.Ytdiljpnfochndaa.VW
