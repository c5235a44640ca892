/- A part of the walk: what this seat's statements share. -/
import Derived.Test.YtdiljpnfochndaaZG11
import Derived.Test.YtdiljpnfochndaaZG6
set_option linter.unusedVariables false
set_option linter.unusedSimpArgs false
set_option linter.unusedSectionVars false
namespace Go.Proofs.Ytdiljpnfochndaa
open Go Go.RowKit Go.Proofs.Ytdiljpnfochndaa.VW
open Go.Proofs.Ytdiljpnfochndaa.HP (Nd kid wor leafB rd evB gameOf gameOf_TF TF TK ValP k_ PlsP PLN pls_set pls_part sumL prodL take_snoc)
attribute [local irreducible] W Ops OrdA VW.Ord OrdX
theorem sumL_take {xs : List Int} {j : Nat} (h : j < xs.length) : sumL (xs.take (j + 1)) = sumL (xs.take j) + xs.getD j 0 := by rw [take_snoc xs j h, Go.Proofs.Ytdiljpnfochndaa.HP.sumL_snoc]
theorem prodL_take {xs : List Int} {j : Nat} (h : j < xs.length) : prodL (xs.take (j + 1)) = prodL (xs.take j) * xs.getD j 0 := by rw [take_snoc xs j h, Go.Proofs.Ytdiljpnfochndaa.HP.prodL_snoc]
theorem zset {os : List Int} {p : Nat} {x : Int} {n : Nat} (h : ∀ j : Nat, j < p + 1 → os.getD j 0 = 0) : ∀ j : Nat, j < p → (os.set p x).getD j 0 = 0 := fun j hj => by rw [Go.Proofs.Ytdiljpnfochndaa.HP.getD_set_ne (by omega)]; exact h j (by omega)
theorem set_same {os : List Int} {p : Nat} (h : p < os.length) : os.set p (os.getD p 0) = os := by
  apply List.ext_getElem (by simp)
  intro j h1 h2
  rw [List.getElem_set]
  split
  · rename_i e; subst e; simp [List.getD_eq_getElem?_getD, h]
  · rfl
theorem rd_le {l : List Nd} {p : Nat} {ps : List Int} {j : Nat} (hjl : j < (kid l p).length) (h : ∀ c ∈ kid l p, 0 ≤ rd ps c ∧ rd ps c ≤ 1152921504606846976) : 0 ≤ rd ps ((kid l p).getD j 0) ∧ rd ps ((kid l p).getD j 0) ≤ 1152921504606846976 := by
  refine h _ ?_
  rw [List.getD_eq_getElem?_getD, List.getElem?_eq_getElem hjl]
  simp
set_option maxHeartbeats 4000000 in
theorem plans_c {w : World} {v : Value} {l : List Nd} (hT : TreeM w v l) (hl : l.length ≤ 9223372036854775807) :
    Calls Try.prog 44 #[v] w (Ret fun r w' => Below w.heap.size w w' ∧ match gameOf l with
      | none => r = .tuple #[.int .i64 0, .int .i64 2]
      | some dep => ∃ vs ps, ValP l dep (wor l) vs ∧ PlsP l dep (vs.getD 0 0) ps ∧ r = .tuple #[.int .i64 (ps.getD 0 0), .int .i64 0]) := by
  obtain ⟨At, ct, rfl⟩ := hT.sl
  refine calls_W (vs := [_]) Try.func44 rfl (by kernel_rfl) rfl ?_
  (repeat (first | with_reducible refine W.seq ?_ | with_reducible refine Ops.nil ?_ | with_reducible refine W.region ?_ | refine z_p (kk := ?_) | refine z_a (kk := ?_) | refine z_y (kk := ?_) | refine z_n (kk := ?_) | refine z_u (kk := ?_) | with_reducible refine W.skip ?_ | with_reducible refine W.endb ?_ | with_reducible refine W.block ?_ | refine W.exit rfl ?_ | refine z_l (kk := ?_) | refine z_f (kk := ?_) | refine z_M (kk := ?_) | refine z_m (kk := ?_) | refine z_e (kk := ?_) | refine z_E (kk := ?_) | refine z_d (kk := ?_) | refine z_I (kk := fun _ => ?_) | refine z_J (kk := fun _ => ?_) | refine z_K (kk := fun _ => ?_) | refine z_L (kk := fun _ => ?_) | refine z_T (kk := ?_) | refine z_F (kk := ?_) | refine z_k (kk := fun _ _ _ _ _ => ?_) | refine z_w (kk := fun _ _ => ?_) | refine z_s (kk := fun _ _ _ _ => ?_) | refine z_D (kk := ?_) | refine z_g (kk := ?_) | refine z_h (kk := ?_)))
  refine Ops.call rfl rfl rfl rfl rfl (newGame_c hT hl) (fun r w1 hR => ?_)
  obtain ⟨hb1, hR⟩ := hR
  cases hg : gameOf l with
  | none =>
    rw [hg] at hR
    obtain ⟨p, hp1, rfl⟩ := hR
    (repeat (first | with_reducible refine W.seq ?_ | with_reducible refine Ops.nil ?_ | with_reducible refine W.region ?_ | refine z_p (kk := ?_) | refine z_a (kk := ?_) | refine z_y (kk := ?_) | refine z_n (kk := ?_) | refine z_u (kk := ?_) | with_reducible refine W.skip ?_ | with_reducible refine W.endb ?_ | with_reducible refine W.block ?_ | refine W.exit rfl ?_ | refine z_l (kk := ?_) | refine z_f (kk := ?_) | refine z_M (kk := ?_) | refine z_m (kk := ?_) | refine z_e (kk := ?_) | refine z_E (kk := ?_) | refine z_d (kk := ?_) | refine z_I (kk := fun _ => ?_) | refine z_J (kk := fun _ => ?_) | refine z_K (kk := fun _ => ?_) | refine z_L (kk := fun _ => ?_) | refine z_T (kk := ?_) | refine z_F (kk := ?_) | refine z_k (kk := fun _ _ _ _ _ => ?_) | refine z_w (kk := fun _ _ => ?_) | refine z_s (kk := fun _ _ _ _ => ?_) | refine z_D (kk := ?_) | refine z_g (kk := ?_) | refine z_h (kk := ?_)))
    refine W.condT rfl (by first | rfl | assumption | (simp only [bnf] <;> omega) | (simp only [*, bnf]; done) | fail) ?_
    (repeat (first | with_reducible refine W.seq ?_ | with_reducible refine Ops.nil ?_ | with_reducible refine W.region ?_ | refine z_p (kk := ?_) | refine z_a (kk := ?_) | refine z_y (kk := ?_) | refine z_n (kk := ?_) | refine z_u (kk := ?_) | with_reducible refine W.skip ?_ | with_reducible refine W.endb ?_ | with_reducible refine W.block ?_ | refine W.exit rfl ?_ | refine z_l (kk := ?_) | refine z_f (kk := ?_) | refine z_M (kk := ?_) | refine z_m (kk := ?_) | refine z_e (kk := ?_) | refine z_E (kk := ?_) | refine z_d (kk := ?_) | refine z_I (kk := fun _ => ?_) | refine z_J (kk := fun _ => ?_) | refine z_K (kk := fun _ => ?_) | refine z_L (kk := fun _ => ?_) | refine z_T (kk := ?_) | refine z_F (kk := ?_) | refine z_k (kk := fun _ _ _ _ _ => ?_) | refine z_w (kk := fun _ _ => ?_) | refine z_s (kk := fun _ _ _ _ => ?_) | refine z_D (kk := ?_) | refine z_g (kk := ?_) | refine z_h (kk := ?_)))
    exact W.fret rfl ⟨hb1, rfl⟩
  | some dep =>
    rw [hg] at hR
    obtain ⟨g, rfl, hgs, hG⟩ := hR
    have hTF := gameOf_TF hg
    have hn1 := hTF.n1
    have hn60 := hTF.n60
    have hdl := hTF.len
    (repeat (first | with_reducible refine W.seq ?_ | with_reducible refine Ops.nil ?_ | with_reducible refine W.region ?_ | refine z_p (kk := ?_) | refine z_a (kk := ?_) | refine z_y (kk := ?_) | refine z_n (kk := ?_) | refine z_u (kk := ?_) | with_reducible refine W.skip ?_ | with_reducible refine W.endb ?_ | with_reducible refine W.block ?_ | refine W.exit rfl ?_ | refine z_l (kk := ?_) | refine z_f (kk := ?_) | refine z_M (kk := ?_) | refine z_m (kk := ?_) | refine z_e (kk := ?_) | refine z_E (kk := ?_) | refine z_d (kk := ?_) | refine z_I (kk := fun _ => ?_) | refine z_J (kk := fun _ => ?_) | refine z_K (kk := fun _ => ?_) | refine z_L (kk := fun _ => ?_) | refine z_T (kk := ?_) | refine z_F (kk := ?_) | refine z_k (kk := fun _ _ _ _ _ => ?_) | refine z_w (kk := fun _ _ => ?_) | refine z_s (kk := fun _ _ _ _ => ?_) | refine z_D (kk := ?_) | refine z_g (kk := ?_) | refine z_h (kk := ?_)))
    refine W.condF rfl (by first | rfl | assumption | (simp only [bnf] <;> omega) | (simp only [*, bnf]; done) | fail) ?_
    (repeat (first | with_reducible refine W.seq ?_ | with_reducible refine Ops.nil ?_ | with_reducible refine W.region ?_ | refine z_p (kk := ?_) | refine z_a (kk := ?_) | refine z_y (kk := ?_) | refine z_n (kk := ?_) | refine z_u (kk := ?_) | with_reducible refine W.skip ?_ | with_reducible refine W.endb ?_ | with_reducible refine W.block ?_ | refine W.exit rfl ?_ | refine z_l (kk := ?_) | refine z_f (kk := ?_) | refine z_M (kk := ?_) | refine z_m (kk := ?_) | refine z_e (kk := ?_) | refine z_E (kk := ?_) | refine z_d (kk := ?_) | refine z_I (kk := fun _ => ?_) | refine z_J (kk := fun _ => ?_) | refine z_K (kk := fun _ => ?_) | refine z_L (kk := fun _ => ?_) | refine z_T (kk := ?_) | refine z_F (kk := ?_) | refine z_k (kk := fun _ _ _ _ _ => ?_) | refine z_w (kk := fun _ _ => ?_) | refine z_s (kk := fun _ _ _ _ => ?_) | refine z_D (kk := ?_) | refine z_g (kk := ?_) | refine z_h (kk := ?_)))
    refine Ops.call rfl rfl rfl rfl rfl (values_c hG hTF (Clo.worth hG)) (fun r w2 hR => ?_)
    obtain ⟨vs, hvs, hI⟩ := hR
    have hb2 := Below.via hb1 hI.bel
    have hG2 := hG.below hI.bel
    have hT2 := hT.below hb2
    have hvl := hvs.len
    have hv2 : SlI w2 r vs := hI.sl
    obtain ⟨Av, cv, rfl⟩ := Sl.sl hv2
    clear hI hT hG
    (repeat (first | with_reducible refine W.seq ?_ | with_reducible refine Ops.nil ?_ | with_reducible refine W.region ?_ | refine z_p (kk := ?_) | refine z_a (kk := ?_) | refine z_y (kk := ?_) | refine z_n (kk := ?_) | refine z_u (kk := ?_) | with_reducible refine W.skip ?_ | with_reducible refine W.endb ?_ | with_reducible refine W.block ?_ | refine W.exit rfl ?_ | refine z_l (kk := ?_) | refine z_f (kk := ?_) | refine z_M (kk := ?_) | refine z_m (kk := ?_) | refine z_e (kk := ?_) | refine z_E (kk := ?_) | refine z_d (kk := ?_) | refine z_I (kk := fun _ => ?_) | refine z_J (kk := fun _ => ?_) | refine z_K (kk := fun _ => ?_) | refine z_L (kk := fun _ => ?_) | refine z_T (kk := ?_) | refine z_F (kk := ?_) | refine z_k (kk := fun _ _ _ _ _ => ?_) | refine z_w (kk := fun _ _ => ?_) | refine z_s (kk := fun _ _ _ _ => ?_) | refine z_D (kk := ?_) | refine z_g (kk := ?_) | refine z_h (kk := ?_)))
    rw [show vs.getD (Int.toNat 0) 0 = vs.getD 0 0 from rfl]
    generalize hbv : vs.getD 0 0 = b at *
    refine Ops.mkO (w0 := w2) (Value.int .i64) 0 rfl rfl rfl rfl rfl rfl rfl rfl rfl (by omega) rfl (Below.refl _ _) (fun w3 dr hO3 k3 _ => ?_)
    have hlr : (List.replicate l.length (0 : Int)).length = l.length := by simp
    have hz3 : ∀ j : Nat, j < l.length → (List.replicate l.length (0 : Int)).getD j 0 = 0 := fun j hj => rep_getD hj
    generalize List.replicate l.length (0 : Int) = os3 at *
    (repeat (first | with_reducible refine W.seq ?_ | with_reducible refine Ops.nil ?_ | with_reducible refine W.region ?_ | refine z_p (kk := ?_) | refine z_a (kk := ?_) | refine z_y (kk := ?_) | refine z_n (kk := ?_) | refine z_u (kk := ?_) | with_reducible refine W.skip ?_ | with_reducible refine W.endb ?_ | with_reducible refine W.block ?_ | refine W.exit rfl ?_ | refine z_l (kk := ?_) | refine z_f (kk := ?_) | refine z_M (kk := ?_) | refine z_m (kk := ?_) | refine z_e (kk := ?_) | refine z_E (kk := ?_) | refine z_d (kk := ?_) | refine z_I (kk := fun _ => ?_) | refine z_J (kk := fun _ => ?_) | refine z_K (kk := fun _ => ?_) | refine z_L (kk := fun _ => ?_) | refine z_T (kk := ?_) | refine z_F (kk := ?_) | refine z_k (kk := fun _ _ _ _ _ => ?_) | refine z_w (kk := fun _ _ => ?_) | refine z_s (kk := fun _ _ _ _ => ?_) | refine z_D (kk := ?_) | refine z_g (kk := ?_) | refine z_h (kk := ?_)))
    refine W.loop (fun m ρ w4 => ∃ (q : Nat) (os : List Int), m = q ∧ q ≤ l.length ∧ ρ = [(0, .slice At l.length ct), (4, .pointer (some ⟨g, 0, none⟩)), (6, .int .i64 b), (7, .slice (some ⟨dr, 0, none⟩) l.length l.length), (8, .int .i64 ((q : Int) - 1))] ∧ OI 3 (Value.int .i64) w2 w4 (.slice (some ⟨dr, 0, none⟩) l.length l.length) os ∧ os.length = l.length ∧ (∀ j : Nat, q ≤ j → j < l.length → os.getD j 0 = PLN l dep b os j) ∧ ∀ j : Nat, j < q → os.getD j 0 = 0)
      ⟨_, _, ⟨l.length, _, rfl, Nat.le_refl _, rfl, hO3, hlr, fun j h1 h2 => by omega, hz3⟩, (by repeat (first | exact trivial | refine And.intro rfl ?_))⟩ ?_
    clear hO3 hlr hz3
    rintro m ρ w4 ⟨q, os, hm, hq, rfl, hO, hol, hv, hz⟩
    subst m
    have hb4 := hO.bel
    (repeat (first | with_reducible refine W.seq ?_ | with_reducible refine Ops.nil ?_ | with_reducible refine W.region ?_ | refine z_p (kk := ?_) | refine z_a (kk := ?_) | refine z_y (kk := ?_) | refine z_n (kk := ?_) | refine z_u (kk := ?_) | with_reducible refine W.skip ?_ | with_reducible refine W.endb ?_ | with_reducible refine W.block ?_ | refine W.exit rfl ?_ | refine z_l (kk := ?_) | refine z_f (kk := ?_) | refine z_M (kk := ?_) | refine z_m (kk := ?_) | refine z_e (kk := ?_) | refine z_E (kk := ?_) | refine z_d (kk := ?_) | refine z_I (kk := fun _ => ?_) | refine z_J (kk := fun _ => ?_) | refine z_K (kk := fun _ => ?_) | refine z_L (kk := fun _ => ?_) | refine z_T (kk := ?_) | refine z_F (kk := ?_) | refine z_k (kk := fun _ _ _ _ _ => ?_) | refine z_w (kk := fun _ _ => ?_) | refine z_s (kk := fun _ _ _ _ => ?_) | refine z_D (kk := ?_) | refine z_g (kk := ?_) | refine z_h (kk := ?_)))
    (first | refine W.condD rfl (fun hc => ?_) (fun hc => ?_) | refine W.condE rfl (fun hc => ?_) (fun hc => ?_) | refine W.condN rfl (fun hc => ?_) (fun hc => ?_) | refine W.cond rfl (fun hc => ?_) (fun hc => ?_))
    · obtain ⟨p, rfl⟩ : ∃ p, q = p + 1 := ⟨q - 1, by omega⟩
      have hp : p < l.length := by omega
      rw [show ((p + 1 : Nat) : Int) - 1 = p by omega]
      have hG4 := hG2.below hb4
      have hz0 := hz p (by omega)
      have hfin : ∀ (x : Int), x = PLN l dep b os p → (os.set p x).length = l.length ∧ (∀ j : Nat, p ≤ j → j < l.length → (os.set p x).getD j 0 = PLN l dep b (os.set p x) j) ∧ ∀ j : Nat, j < p → (os.set p x).getD j 0 = 0 := fun x hx => ⟨by simp [hol], pls_set hTF hp hol hx hv, zset (n := 0) hz⟩
      obtain ⟨hpart1, hpart2⟩ := pls_part hTF hp hv
      have hkl := hTF.klen p hp
      have hkin := hTF.kin p
      (repeat (first | with_reducible refine W.seq ?_ | with_reducible refine Ops.nil ?_ | with_reducible refine W.region ?_ | refine z_p (kk := ?_) | refine z_a (kk := ?_) | refine z_y (kk := ?_) | refine z_n (kk := ?_) | refine z_u (kk := ?_) | with_reducible refine W.skip ?_ | with_reducible refine W.endb ?_ | with_reducible refine W.block ?_ | refine W.exit rfl ?_ | refine z_l (kk := ?_) | refine z_f (kk := ?_) | refine z_M (kk := ?_) | refine z_m (kk := ?_) | refine z_e (kk := ?_) | refine z_E (kk := ?_) | refine z_d (kk := ?_) | refine z_I (kk := fun _ => ?_) | refine z_J (kk := fun _ => ?_) | refine z_K (kk := fun _ => ?_) | refine z_L (kk := fun _ => ?_) | refine z_T (kk := ?_) | refine z_F (kk := ?_) | refine z_k (kk := fun _ _ _ _ _ => ?_) | refine z_w (kk := fun _ _ => ?_) | refine z_s (kk := fun _ _ _ _ => ?_) | refine z_D (kk := ?_) | refine z_g (kk := ?_) | refine z_h (kk := ?_)))
      refine Ops.callS rfl rfl rfl rfl rfl (isLeaf_c hG4 p (by omega) (by omega)) ?_
      by_cases hlw : leafB l p = true ∧ b ≤ wor l p
      · obtain ⟨hlf, hw⟩ := hlw
        rw [hlf]
        obtain ⟨h1, h2, h3⟩ := hfin 1 (by unfold PLN; rw [if_pos hlf, if_pos hw])
        (repeat (first | with_reducible refine W.seq ?_ | with_reducible refine Ops.nil ?_ | with_reducible refine W.region ?_ | refine z_p (kk := ?_) | refine z_a (kk := ?_) | refine z_y (kk := ?_) | refine z_n (kk := ?_) | refine z_u (kk := ?_) | with_reducible refine W.skip ?_ | with_reducible refine W.endb ?_ | with_reducible refine W.block ?_ | refine W.exit rfl ?_ | refine z_l (kk := ?_) | refine z_f (kk := ?_) | refine z_M (kk := ?_) | refine z_m (kk := ?_) | refine z_e (kk := ?_) | refine z_E (kk := ?_) | refine z_d (kk := ?_) | refine z_I (kk := fun _ => ?_) | refine z_J (kk := fun _ => ?_) | refine z_K (kk := fun _ => ?_) | refine z_L (kk := fun _ => ?_) | refine z_T (kk := ?_) | refine z_F (kk := ?_) | refine z_k (kk := fun _ _ _ _ _ => ?_) | refine z_w (kk := fun _ _ => ?_) | refine z_s (kk := fun _ _ _ _ => ?_) | refine z_D (kk := ?_) | refine z_g (kk := ?_) | refine z_h (kk := ?_)))
        refine W.condT rfl (by first | rfl | assumption | (simp only [bnf] <;> omega) | (simp only [*, bnf]; done) | fail) ?_
        (repeat (first | with_reducible refine W.seq ?_ | with_reducible refine Ops.nil ?_ | with_reducible refine W.region ?_ | refine z_p (kk := ?_) | refine z_a (kk := ?_) | refine z_y (kk := ?_) | refine z_n (kk := ?_) | refine z_u (kk := ?_) | with_reducible refine W.skip ?_ | with_reducible refine W.endb ?_ | with_reducible refine W.block ?_ | refine W.exit rfl ?_ | refine z_l (kk := ?_) | refine z_f (kk := ?_) | refine z_M (kk := ?_) | refine z_m (kk := ?_) | refine z_e (kk := ?_) | refine z_E (kk := ?_) | refine z_d (kk := ?_) | refine z_I (kk := fun _ => ?_) | refine z_J (kk := fun _ => ?_) | refine z_K (kk := fun _ => ?_) | refine z_L (kk := fun _ => ?_) | refine z_T (kk := ?_) | refine z_F (kk := ?_) | refine z_k (kk := fun _ _ _ _ _ => ?_) | refine z_w (kk := fun _ _ => ?_) | refine z_s (kk := fun _ _ _ _ => ?_) | refine z_D (kk := ?_) | refine z_g (kk := ?_) | refine z_h (kk := ?_)))
        refine Ops.wrO (enc := Value.int .i64) rfl rfl rfl rfl rfl rfl rfl rfl rfl rfl rfl rfl (by simp) rfl hO (by omega) (fun w5 _ hO5 _ _ => ?_)
        (repeat (first | with_reducible refine W.seq ?_ | with_reducible refine Ops.nil ?_ | with_reducible refine W.region ?_ | refine z_p (kk := ?_) | refine z_a (kk := ?_) | refine z_y (kk := ?_) | refine z_n (kk := ?_) | refine z_u (kk := ?_) | with_reducible refine W.skip ?_ | with_reducible refine W.endb ?_ | with_reducible refine W.block ?_ | refine W.exit rfl ?_ | refine z_l (kk := ?_) | refine z_f (kk := ?_) | refine z_M (kk := ?_) | refine z_m (kk := ?_) | refine z_e (kk := ?_) | refine z_E (kk := ?_) | refine z_d (kk := ?_) | refine z_I (kk := fun _ => ?_) | refine z_J (kk := fun _ => ?_) | refine z_K (kk := fun _ => ?_) | refine z_L (kk := fun _ => ?_) | refine z_T (kk := ?_) | refine z_F (kk := ?_) | refine z_k (kk := fun _ _ _ _ _ => ?_) | refine z_w (kk := fun _ _ => ?_) | refine z_s (kk := fun _ _ _ _ => ?_) | refine z_D (kk := ?_) | refine z_g (kk := ?_) | refine z_h (kk := ?_)))
        exact W.endl ⟨_, _, ⟨⟨p, _, rfl, by omega, rfl, hO5, h1, h2, h3⟩, by omega⟩, (by repeat (first | exact trivial | refine And.intro rfl ?_))⟩
      · refine Ops.cut (fun ρ w' => ρ = [(0, .slice At l.length ct), (4, .pointer (some ⟨g, 0, none⟩)), (6, .int .i64 b), (7, .slice (some ⟨dr, 0, none⟩) l.length l.length), (8, .int .i64 p), (57, .bool false)] ∧ w' = w4) ?_ ?_
        · cases hlf : leafB l p with
          | false =>
            (repeat (first | with_reducible refine W.seq ?_ | with_reducible refine Ops.nil ?_ | with_reducible refine W.region ?_ | refine z_p (kk := ?_) | refine z_a (kk := ?_) | refine z_y (kk := ?_) | refine z_n (kk := ?_) | refine z_u (kk := ?_) | with_reducible refine W.skip ?_ | with_reducible refine W.endb ?_ | with_reducible refine W.block ?_ | refine W.exit rfl ?_ | refine z_l (kk := ?_) | refine z_f (kk := ?_) | refine z_M (kk := ?_) | refine z_m (kk := ?_) | refine z_e (kk := ?_) | refine z_E (kk := ?_) | refine z_d (kk := ?_) | refine z_I (kk := fun _ => ?_) | refine z_J (kk := fun _ => ?_) | refine z_K (kk := fun _ => ?_) | refine z_L (kk := fun _ => ?_) | refine z_T (kk := ?_) | refine z_F (kk := ?_) | refine z_k (kk := fun _ _ _ _ _ => ?_) | refine z_w (kk := fun _ _ => ?_) | refine z_s (kk := fun _ _ _ _ => ?_) | refine z_D (kk := ?_) | refine z_g (kk := ?_) | refine z_h (kk := ?_)))
            exact W.endl ⟨_, ⟨rfl, rfl⟩, (by repeat (first | exact trivial | refine And.intro rfl ?_))⟩
          | true =>
            have hw : ¬ b ≤ wor l p := fun h => hlw ⟨hlf, h⟩
            (repeat (first | with_reducible refine W.seq ?_ | with_reducible refine Ops.nil ?_ | with_reducible refine W.region ?_ | refine z_p (kk := ?_) | refine z_a (kk := ?_) | refine z_y (kk := ?_) | refine z_n (kk := ?_) | refine z_u (kk := ?_) | with_reducible refine W.skip ?_ | with_reducible refine W.endb ?_ | with_reducible refine W.block ?_ | refine W.exit rfl ?_ | refine z_l (kk := ?_) | refine z_f (kk := ?_) | refine z_M (kk := ?_) | refine z_m (kk := ?_) | refine z_e (kk := ?_) | refine z_E (kk := ?_) | refine z_d (kk := ?_) | refine z_I (kk := fun _ => ?_) | refine z_J (kk := fun _ => ?_) | refine z_K (kk := fun _ => ?_) | refine z_L (kk := fun _ => ?_) | refine z_T (kk := ?_) | refine z_F (kk := ?_) | refine z_k (kk := fun _ _ _ _ _ => ?_) | refine z_w (kk := fun _ _ => ?_) | refine z_s (kk := fun _ _ _ _ => ?_) | refine z_D (kk := ?_) | refine z_g (kk := ?_) | refine z_h (kk := ?_)))
            exact W.endl ⟨_, ⟨rfl, rfl⟩, (by repeat (first | exact trivial | refine And.intro rfl ?_ | refine And.intro (look_b rfl (by first | rfl | assumption | (simp only [bnf] <;> omega) | (simp only [*, bnf]; done) | fail)) ?_))⟩
        rintro ρ w5 ⟨rfl, rfl⟩
        refine W.condF rfl (by first | rfl | assumption | (simp only [bnf] <;> omega) | (simp only [*, bnf]; done) | fail) ?_
        (repeat (first | with_reducible refine W.seq ?_ | with_reducible refine Ops.nil ?_ | with_reducible refine W.region ?_ | refine z_p (kk := ?_) | refine z_a (kk := ?_) | refine z_y (kk := ?_) | refine z_n (kk := ?_) | refine z_u (kk := ?_) | with_reducible refine W.skip ?_ | with_reducible refine W.endb ?_ | with_reducible refine W.block ?_ | refine W.exit rfl ?_ | refine z_l (kk := ?_) | refine z_f (kk := ?_) | refine z_M (kk := ?_) | refine z_m (kk := ?_) | refine z_e (kk := ?_) | refine z_E (kk := ?_) | refine z_d (kk := ?_) | refine z_I (kk := fun _ => ?_) | refine z_J (kk := fun _ => ?_) | refine z_K (kk := fun _ => ?_) | refine z_L (kk := fun _ => ?_) | refine z_T (kk := ?_) | refine z_F (kk := ?_) | refine z_k (kk := fun _ _ _ _ _ => ?_) | refine z_w (kk := fun _ _ => ?_) | refine z_s (kk := fun _ _ _ _ => ?_) | refine z_D (kk := ?_) | refine z_g (kk := ?_) | refine z_h (kk := ?_)))
        refine Ops.callS rfl rfl rfl rfl rfl (isLeaf_c hG4 p (by omega) (by omega)) ?_
        by_cases hod : leafB l p = false ∧ evB dep p = false
        · obtain ⟨hlf, hev⟩ := hod
          rw [hlf]
          (repeat (first | with_reducible refine W.seq ?_ | with_reducible refine Ops.nil ?_ | with_reducible refine W.region ?_ | refine z_p (kk := ?_) | refine z_a (kk := ?_) | refine z_y (kk := ?_) | refine z_n (kk := ?_) | refine z_u (kk := ?_) | with_reducible refine W.skip ?_ | with_reducible refine W.endb ?_ | with_reducible refine W.block ?_ | refine W.exit rfl ?_ | refine z_l (kk := ?_) | refine z_f (kk := ?_) | refine z_M (kk := ?_) | refine z_m (kk := ?_) | refine z_e (kk := ?_) | refine z_E (kk := ?_) | refine z_d (kk := ?_) | refine z_I (kk := fun _ => ?_) | refine z_J (kk := fun _ => ?_) | refine z_K (kk := fun _ => ?_) | refine z_L (kk := fun _ => ?_) | refine z_T (kk := ?_) | refine z_F (kk := ?_) | refine z_k (kk := fun _ _ _ _ _ => ?_) | refine z_w (kk := fun _ _ => ?_) | refine z_s (kk := fun _ _ _ _ => ?_) | refine z_D (kk := ?_) | refine z_g (kk := ?_) | refine z_h (kk := ?_)))
          refine Ops.callS rfl rfl rfl rfl rfl (atMax_c hG4 p (by omega) (by omega)) ?_
          rw [hev]
          (repeat (first | with_reducible refine W.seq ?_ | with_reducible refine Ops.nil ?_ | with_reducible refine W.region ?_ | refine z_p (kk := ?_) | refine z_a (kk := ?_) | refine z_y (kk := ?_) | refine z_n (kk := ?_) | refine z_u (kk := ?_) | with_reducible refine W.skip ?_ | with_reducible refine W.endb ?_ | with_reducible refine W.block ?_ | refine W.exit rfl ?_ | refine z_l (kk := ?_) | refine z_f (kk := ?_) | refine z_M (kk := ?_) | refine z_m (kk := ?_) | refine z_e (kk := ?_) | refine z_E (kk := ?_) | refine z_d (kk := ?_) | refine z_I (kk := fun _ => ?_) | refine z_J (kk := fun _ => ?_) | refine z_K (kk := fun _ => ?_) | refine z_L (kk := fun _ => ?_) | refine z_T (kk := ?_) | refine z_F (kk := ?_) | refine z_k (kk := fun _ _ _ _ _ => ?_) | refine z_w (kk := fun _ _ => ?_) | refine z_s (kk := fun _ _ _ _ => ?_) | refine z_D (kk := ?_) | refine z_g (kk := ?_) | refine z_h (kk := ?_)))
          refine W.condT rfl (by first | rfl | assumption | (simp only [bnf] <;> omega) | (simp only [*, bnf]; done) | fail) ?_
          (repeat (first | with_reducible refine W.seq ?_ | with_reducible refine Ops.nil ?_ | with_reducible refine W.region ?_ | refine z_p (kk := ?_) | refine z_a (kk := ?_) | refine z_y (kk := ?_) | refine z_n (kk := ?_) | refine z_u (kk := ?_) | with_reducible refine W.skip ?_ | with_reducible refine W.endb ?_ | with_reducible refine W.block ?_ | refine W.exit rfl ?_ | refine z_l (kk := ?_) | refine z_f (kk := ?_) | refine z_M (kk := ?_) | refine z_m (kk := ?_) | refine z_e (kk := ?_) | refine z_E (kk := ?_) | refine z_d (kk := ?_) | refine z_I (kk := fun _ => ?_) | refine z_J (kk := fun _ => ?_) | refine z_K (kk := fun _ => ?_) | refine z_L (kk := fun _ => ?_) | refine z_T (kk := ?_) | refine z_F (kk := ?_) | refine z_k (kk := fun _ _ _ _ _ => ?_) | refine z_w (kk := fun _ _ => ?_) | refine z_s (kk := fun _ _ _ _ => ?_) | refine z_D (kk := ?_) | refine z_g (kk := ?_) | refine z_h (kk := ?_)))
          refine Ops.wrO (enc := Value.int .i64) rfl rfl rfl rfl rfl rfl rfl rfl rfl rfl rfl rfl (by simp) rfl hO (by omega) (fun w6 _ hO6 _ _ => ?_)
          have hb6 := hO6.bel
          (repeat (first | with_reducible refine W.seq ?_ | with_reducible refine Ops.nil ?_ | with_reducible refine W.region ?_ | refine z_p (kk := ?_) | refine z_a (kk := ?_) | refine z_y (kk := ?_) | refine z_n (kk := ?_) | refine z_u (kk := ?_) | with_reducible refine W.skip ?_ | with_reducible refine W.endb ?_ | with_reducible refine W.block ?_ | refine W.exit rfl ?_ | refine z_l (kk := ?_) | refine z_f (kk := ?_) | refine z_M (kk := ?_) | refine z_m (kk := ?_) | refine z_e (kk := ?_) | refine z_E (kk := ?_) | refine z_d (kk := ?_) | refine z_I (kk := fun _ => ?_) | refine z_J (kk := fun _ => ?_) | refine z_K (kk := fun _ => ?_) | refine z_L (kk := fun _ => ?_) | refine z_T (kk := ?_) | refine z_F (kk := ?_) | refine z_k (kk := fun _ _ _ _ _ => ?_) | refine z_w (kk := fun _ _ => ?_) | refine z_s (kk := fun _ _ _ _ => ?_) | refine z_D (kk := ?_) | refine z_g (kk := ?_) | refine z_h (kk := ?_)))
          refine W.loop (fun m ρ w7 => ∃ (j : Nat) (a : Int), m = (kid l p).length - j ∧ j ≤ (kid l p).length ∧ (∃ A c, ρ = [(0, .slice At l.length ct), (4, .pointer (some ⟨g, 0, none⟩)), (6, .int .i64 b), (7, .slice (some ⟨dr, 0, none⟩) l.length l.length), (8, .int .i64 p), (91, .slice A (kid l p).length c), (92, .int .i64 (kid l p).length), (93, .int .i64 j)] ∧ SlI w2 (.slice A (kid l p).length c) (kid l p)) ∧ OI 3 (Value.int .i64) w2 w7 (.slice (some ⟨dr, 0, none⟩) l.length l.length) (os.set p a) ∧ a = prodL (((kid l p).map (rd os)).take j))
            ⟨_, _, ⟨0, 1, rfl, Nat.zero_le _, ⟨_, _, rfl, by assumption⟩, hO6, rfl⟩, (by repeat (first | exact trivial | refine And.intro rfl ?_))⟩ ?_
          clear hO6 hO hb6
          rintro m ρ w7 ⟨j, a, rfl, hj, ⟨Ak, ck, rfl, hks⟩, hO7, ha⟩
          have hb7 := hO7.bel
          have hosl : (os.set p a).length = l.length := by simp [hol]
          have hosp : (os.set p a).getD p 0 = a := Go.Proofs.Ytdiljpnfochndaa.HP.getD_set_eq (by omega)
          (repeat (first | with_reducible refine W.seq ?_ | with_reducible refine Ops.nil ?_ | with_reducible refine W.region ?_ | refine z_p (kk := ?_) | refine z_a (kk := ?_) | refine z_y (kk := ?_) | refine z_n (kk := ?_) | refine z_u (kk := ?_) | with_reducible refine W.skip ?_ | with_reducible refine W.endb ?_ | with_reducible refine W.block ?_ | refine W.exit rfl ?_ | refine z_l (kk := ?_) | refine z_f (kk := ?_) | refine z_M (kk := ?_) | refine z_m (kk := ?_) | refine z_e (kk := ?_) | refine z_E (kk := ?_) | refine z_d (kk := ?_) | refine z_I (kk := fun _ => ?_) | refine z_J (kk := fun _ => ?_) | refine z_K (kk := fun _ => ?_) | refine z_L (kk := fun _ => ?_) | refine z_T (kk := ?_) | refine z_F (kk := ?_) | refine z_k (kk := fun _ _ _ _ _ => ?_) | refine z_w (kk := fun _ _ => ?_) | refine z_s (kk := fun _ _ _ _ => ?_) | refine z_D (kk := ?_) | refine z_g (kk := ?_) | refine z_h (kk := ?_)))
          (first | refine W.condD rfl (fun hc => ?_) (fun hc => ?_) | refine W.condE rfl (fun hc => ?_) (fun hc => ?_) | refine W.condN rfl (fun hc => ?_) (fun hc => ?_) | refine W.cond rfl (fun hc => ?_) (fun hc => ?_))
          · have hjl : j < (kid l p).length := by omega
            have hkj := hkin j hp hjl
            simp only [k_] at hkj
            have hrd : (os.set p a).getD ((kid l p).getD j 0).toNat 0 = rd os ((kid l p).getD j 0) := rd_set_ne (os := os) (x := a) hkj.1
            have hml : j < ((kid l p).map (rd os)).length := by simpa using hjl
            have hnew : a * rd os ((kid l p).getD j 0) = prodL (((kid l p).map (rd os)).take (j + 1)) := by rw [prodL_take hml, getD_map_rd hjl, ← ha]
            have hbd := hpart2 (j + 1)
            rw [← hnew] at hbd
            (repeat (first | with_reducible refine W.seq ?_ | with_reducible refine Ops.nil ?_ | with_reducible refine W.region ?_ | refine z_p (kk := ?_) | refine z_a (kk := ?_) | refine z_y (kk := ?_) | refine z_n (kk := ?_) | refine z_u (kk := ?_) | with_reducible refine W.skip ?_ | with_reducible refine W.endb ?_ | with_reducible refine W.block ?_ | refine W.exit rfl ?_ | refine z_l (kk := ?_) | refine z_f (kk := ?_) | refine z_M (kk := ?_) | refine z_m (kk := ?_) | refine z_e (kk := ?_) | refine z_E (kk := ?_) | refine z_d (kk := ?_) | refine z_I (kk := fun _ => ?_) | refine z_J (kk := fun _ => ?_) | refine z_K (kk := fun _ => ?_) | refine z_L (kk := fun _ => ?_) | refine z_T (kk := ?_) | refine z_F (kk := ?_) | refine z_k (kk := fun _ _ _ _ _ => ?_) | refine z_w (kk := fun _ _ => ?_) | refine z_s (kk := fun _ _ _ _ => ?_) | refine z_D (kk := ?_) | refine z_g (kk := ?_) | refine z_h (kk := ?_)))
            refine W.ordA 10 [(0, 1), (1, 1), (2, 1), (3, 2), (4, 1), (5, 1), (6, 1), (7, 2), (8, 1), (9, 1), (10, 0)] rfl (by kernel_rfl) rfl (by kernel_rfl) (fun _ _ _ h => h) ?_
            (repeat (first | refine x_p (kk := ?_) | refine x_n (kk := ?_) | refine x_a (kk := ?_) | refine x_l (kk := ?_) | refine x_M (kk := ?_) | refine x_m (kk := ?_) | refine x_e (kk := ?_) | refine x_E (kk := ?_) | refine x_T (kk := ?_) | refine x_F (kk := ?_) | refine x_I (kk := fun _ => ?_) | refine x_J (kk := fun _ => ?_) | refine x_K (kk := fun _ => ?_) | refine x_L (kk := fun _ => ?_) | refine x_k (kk := fun _ _ _ _ _ => ?_) | refine x_w (kk := fun _ _ => ?_) | refine x_s (kk := fun _ _ _ _ => ?_) | refine x_t (kk := ?_) | refine x_f (kk := ?_)))
            rw [hosp, hrd]
            (repeat (first | refine x_p (kk := ?_) | refine x_n (kk := ?_) | refine x_a (kk := ?_) | refine x_l (kk := ?_) | refine x_M (kk := ?_) | refine x_m (kk := ?_) | refine x_e (kk := ?_) | refine x_E (kk := ?_) | refine x_T (kk := ?_) | refine x_F (kk := ?_) | refine x_I (kk := fun _ => ?_) | refine x_J (kk := fun _ => ?_) | refine x_K (kk := fun _ => ?_) | refine x_L (kk := fun _ => ?_) | refine x_k (kk := fun _ _ _ _ _ => ?_) | refine x_w (kk := fun _ _ => ?_) | refine x_s (kk := fun _ _ _ _ => ?_) | refine x_t (kk := ?_) | refine x_f (kk := ?_)))
            refine OrdA.wrO (enc := Value.int .i64) rfl rfl rfl rfl rfl rfl rfl rfl rfl rfl rfl rfl rfl rfl (fun _ => rfl) rfl hO7 (fun _ h => h) (by omega) (by omega) (fun w8 w9 _ hw8 hO9 _ _ => VW.Ord.nil ?_)
            rw [Int.toNat_natCast, List.set_set] at hO9
            (repeat (first | with_reducible refine W.seq ?_ | with_reducible refine Ops.nil ?_ | with_reducible refine W.region ?_ | refine z_p (kk := ?_) | refine z_a (kk := ?_) | refine z_y (kk := ?_) | refine z_n (kk := ?_) | refine z_u (kk := ?_) | with_reducible refine W.skip ?_ | with_reducible refine W.endb ?_ | with_reducible refine W.block ?_ | refine W.exit rfl ?_ | refine z_l (kk := ?_) | refine z_f (kk := ?_) | refine z_M (kk := ?_) | refine z_m (kk := ?_) | refine z_e (kk := ?_) | refine z_E (kk := ?_) | refine z_d (kk := ?_) | refine z_I (kk := fun _ => ?_) | refine z_J (kk := fun _ => ?_) | refine z_K (kk := fun _ => ?_) | refine z_L (kk := fun _ => ?_) | refine z_T (kk := ?_) | refine z_F (kk := ?_) | refine z_k (kk := fun _ _ _ _ _ => ?_) | refine z_w (kk := fun _ _ => ?_) | refine z_s (kk := fun _ _ _ _ => ?_) | refine z_D (kk := ?_) | refine z_g (kk := ?_) | refine z_h (kk := ?_)))
            exact W.endl ⟨_, _, ⟨⟨j + 1, _, rfl, by omega, ⟨_, _, rfl, hks⟩, hO9, hnew⟩, by omega⟩, (by repeat (first | exact trivial | refine And.intro rfl ?_))⟩
          · have hjl : j = (kid l p).length := by omega
            subst hjl
            rw [List.take_of_length_le (by simp)] at ha
            obtain ⟨h1, h2, h3⟩ := hfin a (by unfold PLN; rw [hlf, hev]; exact ha)
            (repeat (first | with_reducible refine W.seq ?_ | with_reducible refine Ops.nil ?_ | with_reducible refine W.region ?_ | refine z_p (kk := ?_) | refine z_a (kk := ?_) | refine z_y (kk := ?_) | refine z_n (kk := ?_) | refine z_u (kk := ?_) | with_reducible refine W.skip ?_ | with_reducible refine W.endb ?_ | with_reducible refine W.block ?_ | refine W.exit rfl ?_ | refine z_l (kk := ?_) | refine z_f (kk := ?_) | refine z_M (kk := ?_) | refine z_m (kk := ?_) | refine z_e (kk := ?_) | refine z_E (kk := ?_) | refine z_d (kk := ?_) | refine z_I (kk := fun _ => ?_) | refine z_J (kk := fun _ => ?_) | refine z_K (kk := fun _ => ?_) | refine z_L (kk := fun _ => ?_) | refine z_T (kk := ?_) | refine z_F (kk := ?_) | refine z_k (kk := fun _ _ _ _ _ => ?_) | refine z_w (kk := fun _ _ => ?_) | refine z_s (kk := fun _ _ _ _ => ?_) | refine z_D (kk := ?_) | refine z_g (kk := ?_) | refine z_h (kk := ?_)))
            exact W.endl ⟨_, _, ⟨⟨p, _, rfl, by omega, rfl, hO7, h1, h2, h3⟩, by omega⟩, (by repeat (first | exact trivial | refine And.intro rfl ?_))⟩
        · refine Ops.cut (fun ρ w' => ρ = [(0, .slice At l.length ct), (4, .pointer (some ⟨g, 0, none⟩)), (6, .int .i64 b), (7, .slice (some ⟨dr, 0, none⟩) l.length l.length), (8, .int .i64 p), (73, .bool false)] ∧ w' = w5) ?_ ?_
          · cases hlf : leafB l p with
            | true =>
              (repeat (first | with_reducible refine W.seq ?_ | with_reducible refine Ops.nil ?_ | with_reducible refine W.region ?_ | refine z_p (kk := ?_) | refine z_a (kk := ?_) | refine z_y (kk := ?_) | refine z_n (kk := ?_) | refine z_u (kk := ?_) | with_reducible refine W.skip ?_ | with_reducible refine W.endb ?_ | with_reducible refine W.block ?_ | refine W.exit rfl ?_ | refine z_l (kk := ?_) | refine z_f (kk := ?_) | refine z_M (kk := ?_) | refine z_m (kk := ?_) | refine z_e (kk := ?_) | refine z_E (kk := ?_) | refine z_d (kk := ?_) | refine z_I (kk := fun _ => ?_) | refine z_J (kk := fun _ => ?_) | refine z_K (kk := fun _ => ?_) | refine z_L (kk := fun _ => ?_) | refine z_T (kk := ?_) | refine z_F (kk := ?_) | refine z_k (kk := fun _ _ _ _ _ => ?_) | refine z_w (kk := fun _ _ => ?_) | refine z_s (kk := fun _ _ _ _ => ?_) | refine z_D (kk := ?_) | refine z_g (kk := ?_) | refine z_h (kk := ?_)))
              exact W.endl ⟨_, ⟨rfl, rfl⟩, (by repeat (first | exact trivial | refine And.intro rfl ?_))⟩
            | false =>
              (repeat (first | with_reducible refine W.seq ?_ | with_reducible refine Ops.nil ?_ | with_reducible refine W.region ?_ | refine z_p (kk := ?_) | refine z_a (kk := ?_) | refine z_y (kk := ?_) | refine z_n (kk := ?_) | refine z_u (kk := ?_) | with_reducible refine W.skip ?_ | with_reducible refine W.endb ?_ | with_reducible refine W.block ?_ | refine W.exit rfl ?_ | refine z_l (kk := ?_) | refine z_f (kk := ?_) | refine z_M (kk := ?_) | refine z_m (kk := ?_) | refine z_e (kk := ?_) | refine z_E (kk := ?_) | refine z_d (kk := ?_) | refine z_I (kk := fun _ => ?_) | refine z_J (kk := fun _ => ?_) | refine z_K (kk := fun _ => ?_) | refine z_L (kk := fun _ => ?_) | refine z_T (kk := ?_) | refine z_F (kk := ?_) | refine z_k (kk := fun _ _ _ _ _ => ?_) | refine z_w (kk := fun _ _ => ?_) | refine z_s (kk := fun _ _ _ _ => ?_) | refine z_D (kk := ?_) | refine z_g (kk := ?_) | refine z_h (kk := ?_)))
              refine Ops.callS rfl rfl rfl rfl rfl (atMax_c hG4 p (by omega) (by omega)) ?_
              cases hev : evB dep p with
              | true =>
                (repeat (first | with_reducible refine W.seq ?_ | with_reducible refine Ops.nil ?_ | with_reducible refine W.region ?_ | refine z_p (kk := ?_) | refine z_a (kk := ?_) | refine z_y (kk := ?_) | refine z_n (kk := ?_) | refine z_u (kk := ?_) | with_reducible refine W.skip ?_ | with_reducible refine W.endb ?_ | with_reducible refine W.block ?_ | refine W.exit rfl ?_ | refine z_l (kk := ?_) | refine z_f (kk := ?_) | refine z_M (kk := ?_) | refine z_m (kk := ?_) | refine z_e (kk := ?_) | refine z_E (kk := ?_) | refine z_d (kk := ?_) | refine z_I (kk := fun _ => ?_) | refine z_J (kk := fun _ => ?_) | refine z_K (kk := fun _ => ?_) | refine z_L (kk := fun _ => ?_) | refine z_T (kk := ?_) | refine z_F (kk := ?_) | refine z_k (kk := fun _ _ _ _ _ => ?_) | refine z_w (kk := fun _ _ => ?_) | refine z_s (kk := fun _ _ _ _ => ?_) | refine z_D (kk := ?_) | refine z_g (kk := ?_) | refine z_h (kk := ?_)))
                exact W.endl ⟨_, ⟨rfl, rfl⟩, (by repeat (first | exact trivial | refine And.intro rfl ?_))⟩
              | false => exact absurd ⟨hlf, hev⟩ hod
          rintro ρ w6 ⟨rfl, rfl⟩
          rw [← set_same (os := os) (p := p) (by omega), hz0] at hO
          refine W.condF rfl (by first | rfl | assumption | (simp only [bnf] <;> omega) | (simp only [*, bnf]; done) | fail) ?_
          (repeat (first | with_reducible refine W.seq ?_ | with_reducible refine Ops.nil ?_ | with_reducible refine W.region ?_ | refine z_p (kk := ?_) | refine z_a (kk := ?_) | refine z_y (kk := ?_) | refine z_n (kk := ?_) | refine z_u (kk := ?_) | with_reducible refine W.skip ?_ | with_reducible refine W.endb ?_ | with_reducible refine W.block ?_ | refine W.exit rfl ?_ | refine z_l (kk := ?_) | refine z_f (kk := ?_) | refine z_M (kk := ?_) | refine z_m (kk := ?_) | refine z_e (kk := ?_) | refine z_E (kk := ?_) | refine z_d (kk := ?_) | refine z_I (kk := fun _ => ?_) | refine z_J (kk := fun _ => ?_) | refine z_K (kk := fun _ => ?_) | refine z_L (kk := fun _ => ?_) | refine z_T (kk := ?_) | refine z_F (kk := ?_) | refine z_k (kk := fun _ _ _ _ _ => ?_) | refine z_w (kk := fun _ _ => ?_) | refine z_s (kk := fun _ _ _ _ => ?_) | refine z_D (kk := ?_) | refine z_g (kk := ?_) | refine z_h (kk := ?_)))
          refine W.loop (fun m ρ w7 => ∃ (j : Nat) (a : Int), m = (kid l p).length - j ∧ j ≤ (kid l p).length ∧ (∃ A c, ρ = [(0, .slice At l.length ct), (4, .pointer (some ⟨g, 0, none⟩)), (6, .int .i64 b), (7, .slice (some ⟨dr, 0, none⟩) l.length l.length), (8, .int .i64 p), (40, .slice A (kid l p).length c), (41, .int .i64 (kid l p).length), (42, .int .i64 j)] ∧ SlI w2 (.slice A (kid l p).length c) (kid l p)) ∧ OI 3 (Value.int .i64) w2 w7 (.slice (some ⟨dr, 0, none⟩) l.length l.length) (os.set p a) ∧ a = sumL (((kid l p).map (rd os)).take j))
            ⟨_, _, ⟨0, 0, rfl, Nat.zero_le _, ⟨_, _, rfl, by assumption⟩, hO, rfl⟩, (by repeat (first | exact trivial | refine And.intro rfl ?_))⟩ ?_
          clear hO
          rintro m ρ w7 ⟨j, a, rfl, hj, ⟨Ak, ck, rfl, hks⟩, hO7, ha⟩
          have hb7 := hO7.bel
          have hosl : (os.set p a).length = l.length := by simp [hol]
          have hosp : (os.set p a).getD p 0 = a := Go.Proofs.Ytdiljpnfochndaa.HP.getD_set_eq (by omega)
          (repeat (first | with_reducible refine W.seq ?_ | with_reducible refine Ops.nil ?_ | with_reducible refine W.region ?_ | refine z_p (kk := ?_) | refine z_a (kk := ?_) | refine z_y (kk := ?_) | refine z_n (kk := ?_) | refine z_u (kk := ?_) | with_reducible refine W.skip ?_ | with_reducible refine W.endb ?_ | with_reducible refine W.block ?_ | refine W.exit rfl ?_ | refine z_l (kk := ?_) | refine z_f (kk := ?_) | refine z_M (kk := ?_) | refine z_m (kk := ?_) | refine z_e (kk := ?_) | refine z_E (kk := ?_) | refine z_d (kk := ?_) | refine z_I (kk := fun _ => ?_) | refine z_J (kk := fun _ => ?_) | refine z_K (kk := fun _ => ?_) | refine z_L (kk := fun _ => ?_) | refine z_T (kk := ?_) | refine z_F (kk := ?_) | refine z_k (kk := fun _ _ _ _ _ => ?_) | refine z_w (kk := fun _ _ => ?_) | refine z_s (kk := fun _ _ _ _ => ?_) | refine z_D (kk := ?_) | refine z_g (kk := ?_) | refine z_h (kk := ?_)))
          (first | refine W.condD rfl (fun hc => ?_) (fun hc => ?_) | refine W.condE rfl (fun hc => ?_) (fun hc => ?_) | refine W.condN rfl (fun hc => ?_) (fun hc => ?_) | refine W.cond rfl (fun hc => ?_) (fun hc => ?_))
          · have hjl : j < (kid l p).length := by omega
            have hkj := hkin j hp hjl
            simp only [k_] at hkj
            have hrd : (os.set p a).getD ((kid l p).getD j 0).toNat 0 = rd os ((kid l p).getD j 0) := rd_set_ne (os := os) (x := a) hkj.1
            have hml : j < ((kid l p).map (rd os)).length := by simpa using hjl
            have hnew : a + rd os ((kid l p).getD j 0) = sumL (((kid l p).map (rd os)).take (j + 1)) := by rw [sumL_take hml, getD_map_rd hjl, ← ha]
            have hbd := hpart2 (j + 1)
            rw [← hnew] at hbd
            (repeat (first | with_reducible refine W.seq ?_ | with_reducible refine Ops.nil ?_ | with_reducible refine W.region ?_ | refine z_p (kk := ?_) | refine z_a (kk := ?_) | refine z_y (kk := ?_) | refine z_n (kk := ?_) | refine z_u (kk := ?_) | with_reducible refine W.skip ?_ | with_reducible refine W.endb ?_ | with_reducible refine W.block ?_ | refine W.exit rfl ?_ | refine z_l (kk := ?_) | refine z_f (kk := ?_) | refine z_M (kk := ?_) | refine z_m (kk := ?_) | refine z_e (kk := ?_) | refine z_E (kk := ?_) | refine z_d (kk := ?_) | refine z_I (kk := fun _ => ?_) | refine z_J (kk := fun _ => ?_) | refine z_K (kk := fun _ => ?_) | refine z_L (kk := fun _ => ?_) | refine z_T (kk := ?_) | refine z_F (kk := ?_) | refine z_k (kk := fun _ _ _ _ _ => ?_) | refine z_w (kk := fun _ _ => ?_) | refine z_s (kk := fun _ _ _ _ => ?_) | refine z_D (kk := ?_) | refine z_g (kk := ?_) | refine z_h (kk := ?_)))
            refine W.ordA 10 [(0, 1), (1, 1), (2, 1), (3, 2), (4, 1), (5, 1), (6, 1), (7, 2), (8, 1), (9, 1), (10, 0)] rfl (by kernel_rfl) rfl (by kernel_rfl) (fun _ _ _ h => h) ?_
            (repeat (first | refine x_p (kk := ?_) | refine x_n (kk := ?_) | refine x_a (kk := ?_) | refine x_l (kk := ?_) | refine x_M (kk := ?_) | refine x_m (kk := ?_) | refine x_e (kk := ?_) | refine x_E (kk := ?_) | refine x_T (kk := ?_) | refine x_F (kk := ?_) | refine x_I (kk := fun _ => ?_) | refine x_J (kk := fun _ => ?_) | refine x_K (kk := fun _ => ?_) | refine x_L (kk := fun _ => ?_) | refine x_k (kk := fun _ _ _ _ _ => ?_) | refine x_w (kk := fun _ _ => ?_) | refine x_s (kk := fun _ _ _ _ => ?_) | refine x_t (kk := ?_) | refine x_f (kk := ?_)))
            refine OrdA.wrO (enc := Value.int .i64) rfl rfl rfl rfl rfl rfl rfl rfl rfl rfl rfl rfl rfl rfl (fun _ => rfl) rfl hO7 (fun _ h => h) (by omega) (by omega) (fun w8 w9 _ hw8 hO9 _ _ => VW.Ord.nil ?_)
            rw [Int.toNat_natCast, List.set_set, hosp, hrd] at hO9
            (repeat (first | with_reducible refine W.seq ?_ | with_reducible refine Ops.nil ?_ | with_reducible refine W.region ?_ | refine z_p (kk := ?_) | refine z_a (kk := ?_) | refine z_y (kk := ?_) | refine z_n (kk := ?_) | refine z_u (kk := ?_) | with_reducible refine W.skip ?_ | with_reducible refine W.endb ?_ | with_reducible refine W.block ?_ | refine W.exit rfl ?_ | refine z_l (kk := ?_) | refine z_f (kk := ?_) | refine z_M (kk := ?_) | refine z_m (kk := ?_) | refine z_e (kk := ?_) | refine z_E (kk := ?_) | refine z_d (kk := ?_) | refine z_I (kk := fun _ => ?_) | refine z_J (kk := fun _ => ?_) | refine z_K (kk := fun _ => ?_) | refine z_L (kk := fun _ => ?_) | refine z_T (kk := ?_) | refine z_F (kk := ?_) | refine z_k (kk := fun _ _ _ _ _ => ?_) | refine z_w (kk := fun _ _ => ?_) | refine z_s (kk := fun _ _ _ _ => ?_) | refine z_D (kk := ?_) | refine z_g (kk := ?_) | refine z_h (kk := ?_)))
            exact W.endl ⟨_, _, ⟨⟨j + 1, _, rfl, by omega, ⟨_, _, rfl, hks⟩, hO9, hnew⟩, by omega⟩, (by repeat (first | exact trivial | refine And.intro rfl ?_))⟩
          · have hjl : j = (kid l p).length := by omega
            subst hjl
            rw [List.take_of_length_le (by simp)] at ha
            have hpl : a = PLN l dep b os p := by
              unfold PLN
              cases hlf : leafB l p with
              | true =>
                have hk0 : kid l p = [] := by unfold leafB at hlf; simpa using hlf
                rw [if_pos rfl, if_neg (fun h => hlw ⟨hlf, h⟩), ha, hk0]; rfl
              | false =>
                cases hev : evB dep p with
                | true => exact ha
                | false => exact absurd ⟨hlf, hev⟩ hod
            obtain ⟨h1, h2, h3⟩ := hfin a hpl
            (repeat (first | with_reducible refine W.seq ?_ | with_reducible refine Ops.nil ?_ | with_reducible refine W.region ?_ | refine z_p (kk := ?_) | refine z_a (kk := ?_) | refine z_y (kk := ?_) | refine z_n (kk := ?_) | refine z_u (kk := ?_) | with_reducible refine W.skip ?_ | with_reducible refine W.endb ?_ | with_reducible refine W.block ?_ | refine W.exit rfl ?_ | refine z_l (kk := ?_) | refine z_f (kk := ?_) | refine z_M (kk := ?_) | refine z_m (kk := ?_) | refine z_e (kk := ?_) | refine z_E (kk := ?_) | refine z_d (kk := ?_) | refine z_I (kk := fun _ => ?_) | refine z_J (kk := fun _ => ?_) | refine z_K (kk := fun _ => ?_) | refine z_L (kk := fun _ => ?_) | refine z_T (kk := ?_) | refine z_F (kk := ?_) | refine z_k (kk := fun _ _ _ _ _ => ?_) | refine z_w (kk := fun _ _ => ?_) | refine z_s (kk := fun _ _ _ _ => ?_) | refine z_D (kk := ?_) | refine z_g (kk := ?_) | refine z_h (kk := ?_)))
            exact W.endl ⟨_, _, ⟨⟨p, _, rfl, by omega, rfl, hO7, h1, h2, h3⟩, by omega⟩, (by repeat (first | exact trivial | refine And.intro rfl ?_))⟩
    · have : q = 0 := by omega
      subst this
      have hsl := hO.sl (z := (0 : Int))
      (repeat (first | with_reducible refine W.seq ?_ | with_reducible refine Ops.nil ?_ | with_reducible refine W.region ?_ | refine z_p (kk := ?_) | refine z_a (kk := ?_) | refine z_y (kk := ?_) | refine z_n (kk := ?_) | refine z_u (kk := ?_) | with_reducible refine W.skip ?_ | with_reducible refine W.endb ?_ | with_reducible refine W.block ?_ | refine W.exit rfl ?_ | refine z_l (kk := ?_) | refine z_f (kk := ?_) | refine z_M (kk := ?_) | refine z_m (kk := ?_) | refine z_e (kk := ?_) | refine z_E (kk := ?_) | refine z_d (kk := ?_) | refine z_I (kk := fun _ => ?_) | refine z_J (kk := fun _ => ?_) | refine z_K (kk := fun _ => ?_) | refine z_L (kk := fun _ => ?_) | refine z_T (kk := ?_) | refine z_F (kk := ?_) | refine z_k (kk := fun _ _ _ _ _ => ?_) | refine z_w (kk := fun _ _ => ?_) | refine z_s (kk := fun _ _ _ _ => ?_) | refine z_D (kk := ?_) | refine z_g (kk := ?_) | refine z_h (kk := ?_)))
      exact W.fret rfl ⟨Below.via hb2 hb4, vs, os, hvs, ⟨hol, fun j hj => by rw [hbv]; exact hv j (by omega) hj⟩, rfl⟩
end Go.Proofs.Ytdiljpnfochndaa
/- The search through another window. -/
namespace Go.Proofs.Ytdiljpnfochndaa.HP
def clp (x : Int) : Int := max (-1000000) (min 1000000 x)
def inS (x : Int) : Prop := x = -far ∨ x = far ∨ (-1000000 < x ∧ x < 1000000)
theorem clp_max (a b : Int) : clp (max a b) = max (clp a) (clp b) := by unfold clp; omega
theorem clp_min (a b : Int) : clp (min a b) = min (clp a) (clp b) := by unfold clp; omega
theorem inS_max {a b : Int} (ha : inS a) (hb : inS b) : inS (max a b) := by
  rcases Int.le_total a b with h | h
  · rwa [Int.max_eq_right h]
  · rwa [Int.max_eq_left h]
theorem inS_min {a b : Int} (ha : inS a) (hb : inS b) : inS (min a b) := by
  rcases Int.le_total a b with h | h
  · rwa [Int.min_eq_left h]
  · rwa [Int.min_eq_right h]
theorem clp_le {a b : Int} (ha : inS a) (hb : inS b) : clp a ≤ clp b ↔ a ≤ b := by
  unfold clp; unfold inS far at ha hb; omega
theorem clp_in {a : Int} (h1 : -1000000 < a) (h2 : a < 1000000) : clp a = a := by unfold clp; omega
theorem kidsS_clp {rec : Int → Int → Int → Int × List Int} {ev : Bool} : ∀ (cs : List Int), (∀ c ∈ cs, ∀ lo hi, inS lo → inS hi → inS (rec c lo hi).1 ∧ rec c (clp lo) (clp hi) = (clp (rec c lo hi).1, (rec c lo hi).2)) → ∀ lo hi, inS lo → inS hi →
    inS (kidsS rec ev cs lo hi).1 ∧ inS (kidsS rec ev cs lo hi).2.1 ∧ kidsS rec ev cs (clp lo) (clp hi) = (clp (kidsS rec ev cs lo hi).1, clp (kidsS rec ev cs lo hi).2.1, (kidsS rec ev cs lo hi).2.2)
  | [], _, lo, hi, hl, hh => ⟨hl, hh, rfl⟩
  | c :: r, h, lo, hi, hl, hh => by
    obtain ⟨h1, h2⟩ := h c (by simp) lo hi hl hh
    have ih := fun lo hi => kidsS_clp (ev := ev) r (fun c hc => h c (by simp [hc])) lo hi
    cases ev with
    | true =>
      simp only [kidsS, if_true, h2]
      have hm := inS_max hl h1
      rw [← clp_max]
      by_cases hc : hi ≤ max lo (rec c lo hi).1
      · rw [if_pos hc, if_pos ((clp_le hh hm).2 hc)]
        exact ⟨hm, hh, rfl⟩
      · rw [if_neg hc, if_neg (fun q => hc ((clp_le hh hm).1 q))]
        obtain ⟨i1, i2, i3⟩ := ih _ _ hm hh
        rw [i3]
        exact ⟨i1, i2, rfl⟩
    | false =>
      simp only [kidsS, Bool.false_eq_true, if_false, h2]
      have hm := inS_min hh h1
      rw [← clp_min]
      by_cases hc : min hi (rec c lo hi).1 ≤ lo
      · rw [if_pos hc, if_pos ((clp_le hm hl).2 hc)]
        exact ⟨hl, hm, rfl⟩
      · rw [if_neg hc, if_neg (fun q => hc ((clp_le hm hl).1 q))]
        obtain ⟨i1, i2, i3⟩ := ih _ _ hl hm
        rw [i3]
        exact ⟨i1, i2, rfl⟩
theorem srS_clp {l : List Nd} {dep : List Int} (hT : TF l dep) : ∀ (f i : Nat) (lo hi : Int), i < l.length → inS lo → inS hi → inS (srS l dep f i lo hi).1 ∧ srS l dep f i (clp lo) (clp hi) = (clp (srS l dep f i lo hi).1, (srS l dep f i lo hi).2)
  | 0, i, lo, hi, _, hl, hh => ⟨.inr (.inr ⟨by simp [srS], by simp [srS]⟩), by simp only [srS]; rfl⟩
  | f + 1, i, lo, hi, hi1, hl, hh => by
    obtain ⟨w1, w2, _⟩ := hT.wor i hi1
    by_cases hlf : leafB l i = true
    · simp only [srS]
      rw [if_pos hlf, if_pos hlf]
      exact ⟨.inr (.inr ⟨show _ < wor l i by omega, show wor l i < _ by omega⟩), by rw [clp_in (a := wor l i) (by omega) (by omega)]⟩
    · simp only [srS]
      rw [if_neg hlf, if_neg hlf]
      have hk := kidsS_clp (rec := srS l dep f) (ev := evB dep i) (kid l i) (fun c hc lo hi hl hh => by
        obtain ⟨h1, h2⟩ := mem_kid hT hi1 hc
        have := srS_clp hT f c.toNat lo hi (by omega) hl hh
        rw [show ((c.toNat : Nat) : Int) = c by omega] at this
        exact this) lo hi hl hh
      obtain ⟨h1, h2, h3⟩ := hk
      rw [h3]
      clear h3
      generalize evB dep i = ev at *
      cases ev with
      | true => exact ⟨h1, rfl⟩
      | false => exact ⟨h2, rfl⟩
theorem kidsS_bdT {rec : Int → Int → Int → Int × List Int} : ∀ (cs : List Int), (∀ c ∈ cs, ∀ lo hi, min hi (-100) ≤ (rec c lo hi).1 ∧ (rec c lo hi).1 ≤ max lo 100) → ∀ lo hi,
    lo ≤ (kidsS rec true cs lo hi).1 ∧ (kidsS rec true cs lo hi).1 ≤ max lo 100 ∧ (cs ≠ [] → min hi (-100) ≤ (kidsS rec true cs lo hi).1)
  | [], _, lo, hi => ⟨Int.le_refl _, by simp only [kidsS]; omega, fun h => absurd rfl h⟩
  | c :: r, h, lo, hi => by
    obtain ⟨h1, h2⟩ := h c (by simp) lo hi
    obtain ⟨i1, i2, _⟩ := kidsS_bdT r (fun c hc => h c (by simp [hc])) (max lo (rec c lo hi).1) hi
    simp only [kidsS, if_true]
    by_cases hc : hi ≤ max lo (rec c lo hi).1
    · rw [if_pos hc]
      simp only
      exact ⟨by omega, by omega, fun _ => by omega⟩
    · rw [if_neg hc]
      simp only
      exact ⟨by omega, by omega, fun _ => by omega⟩
theorem kidsS_bdF {rec : Int → Int → Int → Int × List Int} : ∀ (cs : List Int), (∀ c ∈ cs, ∀ lo hi, min hi (-100) ≤ (rec c lo hi).1 ∧ (rec c lo hi).1 ≤ max lo 100) → ∀ lo hi,
    (kidsS rec false cs lo hi).2.1 ≤ hi ∧ min hi (-100) ≤ (kidsS rec false cs lo hi).2.1 ∧ (cs ≠ [] → (kidsS rec false cs lo hi).2.1 ≤ max lo 100)
  | [], _, lo, hi => ⟨Int.le_refl _, by simp only [kidsS]; omega, fun h => absurd rfl h⟩
  | c :: r, h, lo, hi => by
    obtain ⟨h1, h2⟩ := h c (by simp) lo hi
    obtain ⟨i1, i2, _⟩ := kidsS_bdF r (fun c hc => h c (by simp [hc])) lo (min hi (rec c lo hi).1)
    simp only [kidsS, Bool.false_eq_true, if_false]
    by_cases hc : min hi (rec c lo hi).1 ≤ lo
    · rw [if_pos hc]
      simp only
      exact ⟨by omega, by omega, fun _ => by omega⟩
    · rw [if_neg hc]
      simp only
      exact ⟨by omega, by omega, fun _ => by omega⟩
theorem srS_bd {l : List Nd} {dep : List Int} (hT : TF l dep) : ∀ (f i : Nat) (lo hi : Int), i < l.length → min hi (-100) ≤ (srS l dep f i lo hi).1 ∧ (srS l dep f i lo hi).1 ≤ max lo 100
  | 0, i, lo, hi, _ => by simp only [srS]; omega
  | f + 1, i, lo, hi, hi1 => by
    obtain ⟨w1, w2, _⟩ := hT.wor i hi1
    by_cases hlf : leafB l i = true
    · simp only [srS]
      rw [if_pos hlf]
      simp only
      omega
    · have hk0 : kid l i ≠ [] := by unfold leafB at hlf; intro e; rw [e] at hlf; simp at hlf
      have hk : ∀ c ∈ kid l i, ∀ lo hi, min hi (-100) ≤ (srS l dep f c lo hi).1 ∧ (srS l dep f c lo hi).1 ≤ max lo 100 := fun c hc lo hi => by
        obtain ⟨h1, h2⟩ := mem_kid hT hi1 hc
        have := srS_bd hT f c.toNat lo hi (by omega)
        rw [show ((c.toNat : Nat) : Int) = c by omega] at this
        exact this
      simp only [srS]
      rw [if_neg hlf]
      cases hev : evB dep i with
      | true =>
        have h := kidsS_bdT (kid l i) hk lo hi
        exact ⟨h.2.2 hk0, h.2.1⟩
      | false =>
        have h := kidsS_bdF (kid l i) hk lo hi
        exact ⟨h.2.1, h.2.2 hk0⟩
theorem srS_far {l : List Nd} {dep : List Int} (hT : TF l dep) (f : Nat) : srS l dep f 0 (-1000000) 1000000 = srS l dep f 0 (-far) far := by
  have h := (srS_clp hT f 0 (-far) far hT.n1 (.inl rfl) (.inr (.inl rfl))).2
  have e1 : clp (-far) = -1000000 := by unfold clp far; omega
  have e2 : clp far = 1000000 := by unfold clp far; omega
  have hb := srS_bd hT f 0 (-far) far hT.n1
  rw [e1, e2] at h
  have h0 : ((0 : Nat) : Int) = 0 := rfl
  rw [h0] at h hb
  have e3 : clp (srS l dep f 0 (-far) far).1 = (srS l dep f 0 (-far) far).1 := clp_in (by unfold far at *; omega) (by unfold far at *; omega)
  rw [h, e3]
end Go.Proofs.Ytdiljpnfochndaa.HP
