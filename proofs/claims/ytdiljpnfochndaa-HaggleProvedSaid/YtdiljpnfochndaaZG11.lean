/- A part of the walk: what this seat's statements share. -/
import Derived.Test.YtdiljpnfochndaaZG10
import Derived.Test.YtdiljpnfochndaaZG9
set_option linter.unusedVariables false
set_option linter.unusedSimpArgs false
set_option linter.unusedSectionVars false
namespace Go.Proofs.Ytdiljpnfochndaa
open Go Go.RowKit Go.Proofs.Ytdiljpnfochndaa.VW
open Go.Proofs.Ytdiljpnfochndaa.HP (Nd kid wor leafB rd evB gameOf gameOf_TF ValP NV far TF Dn k_ maxL minL maxL_take minL_take maxL_one minL_one take_snoc RNeedP RN rn_set farR sumC)
attribute [local irreducible] W Ops OrdA VW.Ord
theorem sumC_snoc (l : List Int) (z : Int) (h : l ≠ []) : sumC (l ++ [z]) = min farR (z + sumC l) := by
  cases l with
  | nil => exact absurd rfl h
  | cons a r => simp [sumC, List.foldl_append]
theorem sumC_take (l : List Int) (k : Nat) (h0 : 0 < k) (h : k < l.length) : sumC (l.take (k + 1)) = min farR (l.getD k 0 + sumC (l.take k)) := by
  rw [take_snoc l k h, sumC_snoc _ _ (by intro e; rw [List.take_eq_nil_iff] at e; rcases e with e | e; omega; subst e; simp at h)]
theorem sumC_one (l : List Int) (h : 0 < l.length) : sumC (l.take 1) = l.getD 0 0 := by
  cases l with
  | nil => simp at h
  | cons a r => rfl
/-- The number of a node behind j children. -/
def accN (l : List Nd) (dep : List Int) (mx : Bool) (os : List Int) (a0 : Int) (p j : Nat) : Int := if j = 0 then a0 else if evB dep p == mx then minL (((kid l p).map (rd os)).take j) else sumC (((kid l p).map (rd os)).take j)
theorem accN_succ {l : List Nd} {dep os : List Int} {mx : Bool} {a0 : Int} {p j : Nat} (h : j < (kid l p).length) : accN l dep mx os a0 p (j + 1) = if j = 0 then rd os ((kid l p).getD j 0) else if evB dep p == mx then min (rd os ((kid l p).getD j 0)) (accN l dep mx os a0 p j) else min farR (rd os ((kid l p).getD j 0) + accN l dep mx os a0 p j) := by
  have hm : j < ((kid l p).map (rd os)).length := by simpa using h
  rw [← getD_map_rd h]
  unfold accN
  by_cases hj : j = 0
  · subst hj
    simp only [Nat.zero_add, if_true]
    rw [if_neg (by omega)]
    split
    · exact minL_one _ hm
    · exact sumC_one _ hm
  · rw [if_neg (by omega), if_neg hj, if_neg hj]
    split
    · rw [minL_take _ _ (by omega) hm, Int.min_comm]
    · exact sumC_take _ _ (by omega) hm
theorem accN_end {l : List Nd} {dep os : List Int} {mx : Bool} {wf : Int → Int} {p : Nat} : accN l dep mx os (wf p) p (kid l p).length = RN l dep mx wf os p := by
  unfold accN RN leafB
  by_cases h : (kid l p).length = 0
  · have h2 : (kid l p).isEmpty = true := by rw [List.length_eq_zero_iff.1 h]; rfl
    rw [if_pos h, if_pos h2]
  · have h2 : (kid l p).isEmpty = false := by cases hk : kid l p with | nil => rw [hk] at h; simp at h | cons a r => rfl
    rw [if_neg h, h2, List.take_of_length_le (by simp)]
    rfl
set_option maxHeartbeats 2000000 in
theorem needs_c {w : World} {v wv : Value} {l : List Nd} {dep ws : List Int} {mx : Bool} (hTr : TreeM w v l) (hT : TF l dep) (hW : SlI w wv ws) (hwl : ws.length = l.length) (hwb : ∀ i : Nat, i < l.length → 0 ≤ ws.getD i 0 ∧ ws.getD i 0 ≤ 1000000) :
    Calls Try.prog 65 #[v, wv, .bool mx] w (Ret fun r w' => Below w.heap.size w w' ∧ ∃ rs : List Int, RNeedP l dep mx (fun i => ws.getD i.toNat 0) rs ∧ r = .int .i64 (rs.getD 0 0)) := by
  obtain ⟨At, ct, rfl⟩ := hTr.sl
  obtain ⟨Aw, cw, rfl⟩ := Sl.sl hW
  have hn := hT.n60
  have hn1 := hT.n1
  refine calls_W (vs := [_, _, _]) Try.func65 rfl (by kernel_rfl) rfl ?_
  (repeat (first | with_reducible refine W.seq ?_ | with_reducible refine Ops.nil ?_ | with_reducible refine W.region ?_ | refine z_p (kk := ?_) | refine z_a (kk := ?_) | refine z_y (kk := ?_) | refine z_n (kk := ?_) | refine z_u (kk := ?_) | with_reducible refine W.skip ?_ | with_reducible refine W.endb ?_ | with_reducible refine W.block ?_ | refine W.exit rfl ?_ | refine z_l (kk := ?_) | refine z_f (kk := ?_) | refine z_M (kk := ?_) | refine z_m (kk := ?_) | refine z_e (kk := ?_) | refine z_E (kk := ?_) | refine z_d (kk := ?_) | refine z_I (kk := fun _ => ?_) | refine z_J (kk := fun _ => ?_) | refine z_K (kk := fun _ => ?_) | refine z_L (kk := fun _ => ?_) | refine z_T (kk := ?_) | refine z_F (kk := ?_) | refine z_k (kk := fun _ _ _ _ _ => ?_) | refine z_w (kk := fun _ _ => ?_) | refine z_s (kk := fun _ _ _ _ => ?_) | refine z_g (kk := ?_) | refine z_h (kk := ?_)))
  refine Ops.call rfl rfl rfl rfl rfl (even_c hTr hT) (fun r w1 hR => ?_)
  obtain ⟨bs, hE, hbl, hbv⟩ := hR
  have hb1 := hE.bel
  have hE1 : SlB w1 r bs := hE.sl
  obtain ⟨Ae, ce, rfl⟩ := Sl.sl hE1
  have hTr1 := hTr.below hb1
  have hW1 := Sl.below hW hb1
  clear hTr hW
  (repeat (first | with_reducible refine W.seq ?_ | with_reducible refine Ops.nil ?_ | with_reducible refine W.region ?_ | refine z_p (kk := ?_) | refine z_a (kk := ?_) | refine z_y (kk := ?_) | refine z_n (kk := ?_) | refine z_u (kk := ?_) | with_reducible refine W.skip ?_ | with_reducible refine W.endb ?_ | with_reducible refine W.block ?_ | refine W.exit rfl ?_ | refine z_l (kk := ?_) | refine z_f (kk := ?_) | refine z_M (kk := ?_) | refine z_m (kk := ?_) | refine z_e (kk := ?_) | refine z_E (kk := ?_) | refine z_d (kk := ?_) | refine z_I (kk := fun _ => ?_) | refine z_J (kk := fun _ => ?_) | refine z_K (kk := fun _ => ?_) | refine z_L (kk := fun _ => ?_) | refine z_T (kk := ?_) | refine z_F (kk := ?_) | refine z_k (kk := fun _ _ _ _ _ => ?_) | refine z_w (kk := fun _ _ => ?_) | refine z_s (kk := fun _ _ _ _ => ?_) | refine z_g (kk := ?_) | refine z_h (kk := ?_)))
  refine Ops.mkO (w0 := w1) (Value.int .i64) 0 rfl rfl rfl rfl rfl rfl rfl rfl rfl (by omega) rfl (Below.refl _ _) (fun w2 dr hO2 k2 _ => ?_)
  have hlr : (List.replicate l.length (0 : Int)).length = l.length := by simp
  generalize List.replicate l.length (0 : Int) = os2 at *
  (repeat (first | with_reducible refine W.seq ?_ | with_reducible refine Ops.nil ?_ | with_reducible refine W.region ?_ | refine z_p (kk := ?_) | refine z_a (kk := ?_) | refine z_y (kk := ?_) | refine z_n (kk := ?_) | refine z_u (kk := ?_) | with_reducible refine W.skip ?_ | with_reducible refine W.endb ?_ | with_reducible refine W.block ?_ | refine W.exit rfl ?_ | refine z_l (kk := ?_) | refine z_f (kk := ?_) | refine z_M (kk := ?_) | refine z_m (kk := ?_) | refine z_e (kk := ?_) | refine z_E (kk := ?_) | refine z_d (kk := ?_) | refine z_I (kk := fun _ => ?_) | refine z_J (kk := fun _ => ?_) | refine z_K (kk := fun _ => ?_) | refine z_L (kk := fun _ => ?_) | refine z_T (kk := ?_) | refine z_F (kk := ?_) | refine z_k (kk := fun _ _ _ _ _ => ?_) | refine z_w (kk := fun _ _ => ?_) | refine z_s (kk := fun _ _ _ _ => ?_) | refine z_g (kk := ?_) | refine z_h (kk := ?_)))
  refine W.loop (fun m ρ w3 => ∃ (q : Nat) (os : List Int), m = q ∧ q ≤ l.length ∧ ρ = [(0, .slice At l.length ct), (1, .slice Aw ws.length cw), (2, .bool mx), (7, .slice Ae bs.length ce), (8, .slice (some ⟨dr, 0, none⟩) l.length l.length), (9, .int .i64 ((q : Int) - 1))] ∧ OI 3 (Value.int .i64) w1 w3 (.slice (some ⟨dr, 0, none⟩) l.length l.length) os ∧ os.length = l.length ∧ (∀ j : Nat, q ≤ j → j < l.length → os.getD j 0 = RN l dep mx (fun i => ws.getD i.toNat 0) os j) ∧ ∀ j : Nat, q ≤ j → j < l.length → 0 ≤ os.getD j 0 ∧ os.getD j 0 ≤ 1000000)
    ⟨_, _, ⟨l.length, _, rfl, Nat.le_refl _, rfl, hO2, hlr, fun j h1 h2 => by omega, fun j h1 h2 => by omega⟩, (by repeat (first | exact trivial | refine And.intro rfl ?_))⟩ ?_
  clear hO2 hlr
  rintro m ρ w3 ⟨q, os, hm, hq, rfl, hO, hol, hv, hbd⟩
  subst m
  (repeat (first | with_reducible refine W.seq ?_ | with_reducible refine Ops.nil ?_ | with_reducible refine W.region ?_ | refine z_p (kk := ?_) | refine z_a (kk := ?_) | refine z_y (kk := ?_) | refine z_n (kk := ?_) | refine z_u (kk := ?_) | with_reducible refine W.skip ?_ | with_reducible refine W.endb ?_ | with_reducible refine W.block ?_ | refine W.exit rfl ?_ | refine z_l (kk := ?_) | refine z_f (kk := ?_) | refine z_M (kk := ?_) | refine z_m (kk := ?_) | refine z_e (kk := ?_) | refine z_E (kk := ?_) | refine z_d (kk := ?_) | refine z_I (kk := fun _ => ?_) | refine z_J (kk := fun _ => ?_) | refine z_K (kk := fun _ => ?_) | refine z_L (kk := fun _ => ?_) | refine z_T (kk := ?_) | refine z_F (kk := ?_) | refine z_k (kk := fun _ _ _ _ _ => ?_) | refine z_w (kk := fun _ _ => ?_) | refine z_s (kk := fun _ _ _ _ => ?_) | refine z_g (kk := ?_) | refine z_h (kk := ?_)))
  (first | refine W.condD rfl (fun hc => ?_) (fun hc => ?_) | refine W.condE rfl (fun hc => ?_) (fun hc => ?_) | refine W.condN rfl (fun hc => ?_) (fun hc => ?_) | refine W.cond rfl (fun hc => ?_) (fun hc => ?_))
  · obtain ⟨p, rfl⟩ : ∃ p, q = p + 1 := ⟨q - 1, by omega⟩
    have hp : p < l.length := by omega
    have hb3 := hO.bel
    rw [show ((p + 1 : Nat) : Int) - 1 = p by omega]
    have hev := hbv p hp
    have hwp := hwb p hp
    (repeat (first | with_reducible refine W.seq ?_ | with_reducible refine Ops.nil ?_ | with_reducible refine W.region ?_ | refine z_p (kk := ?_) | refine z_a (kk := ?_) | refine z_y (kk := ?_) | refine z_n (kk := ?_) | refine z_u (kk := ?_) | with_reducible refine W.skip ?_ | with_reducible refine W.endb ?_ | with_reducible refine W.block ?_ | refine W.exit rfl ?_ | refine z_l (kk := ?_) | refine z_f (kk := ?_) | refine z_M (kk := ?_) | refine z_m (kk := ?_) | refine z_e (kk := ?_) | refine z_E (kk := ?_) | refine z_d (kk := ?_) | refine z_I (kk := fun _ => ?_) | refine z_J (kk := fun _ => ?_) | refine z_K (kk := fun _ => ?_) | refine z_L (kk := fun _ => ?_) | refine z_T (kk := ?_) | refine z_F (kk := ?_) | refine z_k (kk := fun _ _ _ _ _ => ?_) | refine z_w (kk := fun _ _ => ?_) | refine z_s (kk := fun _ _ _ _ => ?_) | refine z_g (kk := ?_) | refine z_h (kk := ?_)))
    refine Ops.wrO rfl rfl rfl rfl rfl rfl rfl rfl rfl rfl rfl rfl (by simp) rfl hO (by omega) (fun w4 _ hO4 _ _ => ?_)
    (repeat (first | with_reducible refine W.seq ?_ | with_reducible refine Ops.nil ?_ | with_reducible refine W.region ?_ | refine z_p (kk := ?_) | refine z_a (kk := ?_) | refine z_y (kk := ?_) | refine z_n (kk := ?_) | refine z_u (kk := ?_) | with_reducible refine W.skip ?_ | with_reducible refine W.endb ?_ | with_reducible refine W.block ?_ | refine W.exit rfl ?_ | refine z_l (kk := ?_) | refine z_f (kk := ?_) | refine z_M (kk := ?_) | refine z_m (kk := ?_) | refine z_e (kk := ?_) | refine z_E (kk := ?_) | refine z_d (kk := ?_) | refine z_I (kk := fun _ => ?_) | refine z_J (kk := fun _ => ?_) | refine z_K (kk := fun _ => ?_) | refine z_L (kk := fun _ => ?_) | refine z_T (kk := ?_) | refine z_F (kk := ?_) | refine z_k (kk := fun _ _ _ _ _ => ?_) | refine z_w (kk := fun _ _ => ?_) | refine z_s (kk := fun _ _ _ _ => ?_) | refine z_g (kk := ?_) | refine z_h (kk := ?_)))
    refine W.loop (fun m ρ w5 => ∃ (j : Nat) (a : Int), m = (kid l p).length - j ∧ j ≤ (kid l p).length ∧ ρ = [(0, .slice At l.length ct), (1, .slice Aw ws.length cw), (2, .bool mx), (7, .slice Ae bs.length ce), (8, .slice (some ⟨dr, 0, none⟩) l.length l.length), (9, .int .i64 p), (10, .int .i64 j)] ∧ OI 3 (Value.int .i64) w1 w5 (.slice (some ⟨dr, 0, none⟩) l.length l.length) (os.set p a) ∧ a = accN l dep mx os (ws.getD p 0) p j ∧ 0 ≤ a ∧ a ≤ 1000000)
      ⟨_, _, ⟨0, _, rfl, Nat.zero_le _, rfl, hO4, rfl, hwp⟩, (by repeat (first | exact trivial | refine And.intro rfl ?_))⟩ ?_
    clear hO4
    rintro m ρ w5 ⟨j, a, rfl, hj, rfl, hO5, ha, ha0, ha1⟩
    have hb5 := hO5.bel
    have hkl := hT.klen p hp
    have hosl : (os.set p a).length = l.length := by simp [hol]
    have hosp : (os.set p a).getD p 0 = a := Go.Proofs.Ytdiljpnfochndaa.HP.getD_set_eq (by omega)
    (repeat (first | with_reducible refine W.seq ?_ | with_reducible refine Ops.nil ?_ | with_reducible refine W.region ?_ | refine z_p (kk := ?_) | refine z_a (kk := ?_) | refine z_y (kk := ?_) | refine z_n (kk := ?_) | refine z_u (kk := ?_) | with_reducible refine W.skip ?_ | with_reducible refine W.endb ?_ | with_reducible refine W.block ?_ | refine W.exit rfl ?_ | refine z_l (kk := ?_) | refine z_f (kk := ?_) | refine z_M (kk := ?_) | refine z_m (kk := ?_) | refine z_e (kk := ?_) | refine z_E (kk := ?_) | refine z_d (kk := ?_) | refine z_I (kk := fun _ => ?_) | refine z_J (kk := fun _ => ?_) | refine z_K (kk := fun _ => ?_) | refine z_L (kk := fun _ => ?_) | refine z_T (kk := ?_) | refine z_F (kk := ?_) | refine z_k (kk := fun _ _ _ _ _ => ?_) | refine z_w (kk := fun _ _ => ?_) | refine z_s (kk := fun _ _ _ _ => ?_) | refine z_g (kk := ?_) | refine z_h (kk := ?_)))
    (first | refine W.condD rfl (fun hc => ?_) (fun hc => ?_) | refine W.condE rfl (fun hc => ?_) (fun hc => ?_) | refine W.condN rfl (fun hc => ?_) (fun hc => ?_) | refine W.cond rfl (fun hc => ?_) (fun hc => ?_))
    · have hjl : j < (kid l p).length := by omega
      have hkin := hT.kin p j hp hjl
      simp only [k_] at hkin
      have hrd : (os.set p a).getD ((kid l p).getD j 0).toNat 0 = rd os ((kid l p).getD j 0) := rd_set_ne (os := os) (x := a) hkin.1
      have hkb := hbd ((kid l p).getD j 0).toNat (by omega) (by omega)
      have hkb' : 0 ≤ rd os ((kid l p).getD j 0) ∧ rd os ((kid l p).getD j 0) ≤ 1000000 := hkb
      have hacc := accN_succ (dep := dep) (mx := mx) (os := os) (a0 := ws.getD p 0) hjl
      have hgo : ∀ (x : Int) (w6 : World), OI 3 (Value.int .i64) w1 w6 (.slice (some ⟨dr, 0, none⟩) l.length l.length) ((os.set p a).set p x) → OI 3 (Value.int .i64) w1 w6 (.slice (some ⟨dr, 0, none⟩) l.length l.length) (os.set p x) := fun x w6 h => by rwa [List.set_set] at h
      have hmb : (!(evB dep p == mx)) = true ∨ (!(evB dep p == mx)) = false := by cases evB dep p <;> cases mx <;> simp
      (repeat (first | with_reducible refine W.seq ?_ | with_reducible refine Ops.nil ?_ | with_reducible refine W.region ?_ | refine z_p (kk := ?_) | refine z_a (kk := ?_) | refine z_y (kk := ?_) | refine z_n (kk := ?_) | refine z_u (kk := ?_) | with_reducible refine W.skip ?_ | with_reducible refine W.endb ?_ | with_reducible refine W.block ?_ | refine W.exit rfl ?_ | refine z_l (kk := ?_) | refine z_f (kk := ?_) | refine z_M (kk := ?_) | refine z_m (kk := ?_) | refine z_e (kk := ?_) | refine z_E (kk := ?_) | refine z_d (kk := ?_) | refine z_I (kk := fun _ => ?_) | refine z_J (kk := fun _ => ?_) | refine z_K (kk := fun _ => ?_) | refine z_L (kk := fun _ => ?_) | refine z_T (kk := ?_) | refine z_F (kk := ?_) | refine z_k (kk := fun _ _ _ _ _ => ?_) | refine z_w (kk := fun _ _ => ?_) | refine z_s (kk := fun _ _ _ _ => ?_) | refine z_g (kk := ?_) | refine z_h (kk := ?_)))
      rw [hev]
      (repeat (first | with_reducible refine W.seq ?_ | with_reducible refine Ops.nil ?_ | with_reducible refine W.region ?_ | refine z_p (kk := ?_) | refine z_a (kk := ?_) | refine z_y (kk := ?_) | refine z_n (kk := ?_) | refine z_u (kk := ?_) | with_reducible refine W.skip ?_ | with_reducible refine W.endb ?_ | with_reducible refine W.block ?_ | refine W.exit rfl ?_ | refine z_l (kk := ?_) | refine z_f (kk := ?_) | refine z_M (kk := ?_) | refine z_m (kk := ?_) | refine z_e (kk := ?_) | refine z_E (kk := ?_) | refine z_d (kk := ?_) | refine z_I (kk := fun _ => ?_) | refine z_J (kk := fun _ => ?_) | refine z_K (kk := fun _ => ?_) | refine z_L (kk := fun _ => ?_) | refine z_T (kk := ?_) | refine z_F (kk := ?_) | refine z_k (kk := fun _ _ _ _ _ => ?_) | refine z_w (kk := fun _ _ => ?_) | refine z_s (kk := fun _ _ _ _ => ?_) | refine z_g (kk := ?_) | refine z_h (kk := ?_)))
      rcases hmb with hmb | hmb
      · have hmb' : (evB dep p == mx) = false := by simpa using hmb
        refine W.condT rfl (by first | rfl | assumption | (simp only [bnf] <;> omega) | (simp only [*, bnf]; done) | fail) ?_
        (repeat (first | with_reducible refine W.seq ?_ | with_reducible refine Ops.nil ?_ | with_reducible refine W.region ?_ | refine z_p (kk := ?_) | refine z_a (kk := ?_) | refine z_y (kk := ?_) | refine z_n (kk := ?_) | refine z_u (kk := ?_) | with_reducible refine W.skip ?_ | with_reducible refine W.endb ?_ | with_reducible refine W.block ?_ | refine W.exit rfl ?_ | refine z_l (kk := ?_) | refine z_f (kk := ?_) | refine z_M (kk := ?_) | refine z_m (kk := ?_) | refine z_e (kk := ?_) | refine z_E (kk := ?_) | refine z_d (kk := ?_) | refine z_I (kk := fun _ => ?_) | refine z_J (kk := fun _ => ?_) | refine z_K (kk := fun _ => ?_) | refine z_L (kk := fun _ => ?_) | refine z_T (kk := ?_) | refine z_F (kk := ?_) | refine z_k (kk := fun _ _ _ _ _ => ?_) | refine z_w (kk := fun _ _ => ?_) | refine z_s (kk := fun _ _ _ _ => ?_) | refine z_g (kk := ?_) | refine z_h (kk := ?_)))
        (first | refine W.condD rfl (fun hc => ?_) (fun hc => ?_) | refine W.condE rfl (fun hc => ?_) (fun hc => ?_) | refine W.condN rfl (fun hc => ?_) (fun hc => ?_) | refine W.cond rfl (fun hc => ?_) (fun hc => ?_))
        · have hj0 : j = 0 := by omega
          rw [if_pos hj0] at hacc
          (repeat (first | with_reducible refine W.seq ?_ | with_reducible refine Ops.nil ?_ | with_reducible refine W.region ?_ | refine z_p (kk := ?_) | refine z_a (kk := ?_) | refine z_y (kk := ?_) | refine z_n (kk := ?_) | refine z_u (kk := ?_) | with_reducible refine W.skip ?_ | with_reducible refine W.endb ?_ | with_reducible refine W.block ?_ | refine W.exit rfl ?_ | refine z_l (kk := ?_) | refine z_f (kk := ?_) | refine z_M (kk := ?_) | refine z_m (kk := ?_) | refine z_e (kk := ?_) | refine z_E (kk := ?_) | refine z_d (kk := ?_) | refine z_I (kk := fun _ => ?_) | refine z_J (kk := fun _ => ?_) | refine z_K (kk := fun _ => ?_) | refine z_L (kk := fun _ => ?_) | refine z_T (kk := ?_) | refine z_F (kk := ?_) | refine z_k (kk := fun _ _ _ _ _ => ?_) | refine z_w (kk := fun _ _ => ?_) | refine z_s (kk := fun _ _ _ _ => ?_) | refine z_g (kk := ?_) | refine z_h (kk := ?_)))
          refine Ops.wrO rfl rfl rfl rfl rfl rfl rfl rfl rfl rfl rfl rfl (by simp) rfl hO5 (by omega) (fun w6 _ hO6 _ _ => ?_)
          (repeat (first | with_reducible refine W.seq ?_ | with_reducible refine Ops.nil ?_ | with_reducible refine W.region ?_ | refine z_p (kk := ?_) | refine z_a (kk := ?_) | refine z_y (kk := ?_) | refine z_n (kk := ?_) | refine z_u (kk := ?_) | with_reducible refine W.skip ?_ | with_reducible refine W.endb ?_ | with_reducible refine W.block ?_ | refine W.exit rfl ?_ | refine z_l (kk := ?_) | refine z_f (kk := ?_) | refine z_M (kk := ?_) | refine z_m (kk := ?_) | refine z_e (kk := ?_) | refine z_E (kk := ?_) | refine z_d (kk := ?_) | refine z_I (kk := fun _ => ?_) | refine z_J (kk := fun _ => ?_) | refine z_K (kk := fun _ => ?_) | refine z_L (kk := fun _ => ?_) | refine z_T (kk := ?_) | refine z_F (kk := ?_) | refine z_k (kk := fun _ _ _ _ _ => ?_) | refine z_w (kk := fun _ _ => ?_) | refine z_s (kk := fun _ _ _ _ => ?_) | refine z_g (kk := ?_) | refine z_h (kk := ?_)))
          exact W.endl ⟨_, _, ⟨⟨j + 1, _, rfl, by omega, rfl, hgo _ _ hO6, by rw [hacc]; exact hrd, by omega, by omega⟩, by omega⟩, (by repeat (first | exact trivial | refine And.intro rfl ?_))⟩
        · rw [if_neg (by omega), if_neg (by rw [hmb']; simp), ← ha] at hacc
          (repeat (first | with_reducible refine W.seq ?_ | with_reducible refine Ops.nil ?_ | with_reducible refine W.region ?_ | refine z_p (kk := ?_) | refine z_a (kk := ?_) | refine z_y (kk := ?_) | refine z_n (kk := ?_) | refine z_u (kk := ?_) | with_reducible refine W.skip ?_ | with_reducible refine W.endb ?_ | with_reducible refine W.block ?_ | refine W.exit rfl ?_ | refine z_l (kk := ?_) | refine z_f (kk := ?_) | refine z_M (kk := ?_) | refine z_m (kk := ?_) | refine z_e (kk := ?_) | refine z_E (kk := ?_) | refine z_d (kk := ?_) | refine z_I (kk := fun _ => ?_) | refine z_J (kk := fun _ => ?_) | refine z_K (kk := fun _ => ?_) | refine z_L (kk := fun _ => ?_) | refine z_T (kk := ?_) | refine z_F (kk := ?_) | refine z_k (kk := fun _ _ _ _ _ => ?_) | refine z_w (kk := fun _ _ => ?_) | refine z_s (kk := fun _ _ _ _ => ?_) | refine z_g (kk := ?_) | refine z_h (kk := ?_)))
          refine Ops.wrO rfl rfl rfl rfl rfl rfl rfl rfl rfl rfl rfl rfl (by simp) rfl hO5 (by omega) (fun w6 _ hO6 _ _ => ?_)
          (repeat (first | with_reducible refine W.seq ?_ | with_reducible refine Ops.nil ?_ | with_reducible refine W.region ?_ | refine z_p (kk := ?_) | refine z_a (kk := ?_) | refine z_y (kk := ?_) | refine z_n (kk := ?_) | refine z_u (kk := ?_) | with_reducible refine W.skip ?_ | with_reducible refine W.endb ?_ | with_reducible refine W.block ?_ | refine W.exit rfl ?_ | refine z_l (kk := ?_) | refine z_f (kk := ?_) | refine z_M (kk := ?_) | refine z_m (kk := ?_) | refine z_e (kk := ?_) | refine z_E (kk := ?_) | refine z_d (kk := ?_) | refine z_I (kk := fun _ => ?_) | refine z_J (kk := fun _ => ?_) | refine z_K (kk := fun _ => ?_) | refine z_L (kk := fun _ => ?_) | refine z_T (kk := ?_) | refine z_F (kk := ?_) | refine z_k (kk := fun _ _ _ _ _ => ?_) | refine z_w (kk := fun _ _ => ?_) | refine z_s (kk := fun _ _ _ _ => ?_) | refine z_g (kk := ?_) | refine z_h (kk := ?_)))
          exact W.endl ⟨_, _, ⟨⟨j + 1, _, rfl, by omega, rfl, hgo _ _ hO6, by rw [hacc, hrd, hosp], by omega, by omega⟩, by omega⟩, (by repeat (first | exact trivial | refine And.intro rfl ?_))⟩
      · have hmb' : (evB dep p == mx) = true := by simpa using hmb
        refine W.condF rfl (by first | rfl | assumption | (simp only [bnf] <;> omega) | (simp only [*, bnf]; done) | fail) ?_
        (repeat (first | with_reducible refine W.seq ?_ | with_reducible refine Ops.nil ?_ | with_reducible refine W.region ?_ | refine z_p (kk := ?_) | refine z_a (kk := ?_) | refine z_y (kk := ?_) | refine z_n (kk := ?_) | refine z_u (kk := ?_) | with_reducible refine W.skip ?_ | with_reducible refine W.endb ?_ | with_reducible refine W.block ?_ | refine W.exit rfl ?_ | refine z_l (kk := ?_) | refine z_f (kk := ?_) | refine z_M (kk := ?_) | refine z_m (kk := ?_) | refine z_e (kk := ?_) | refine z_E (kk := ?_) | refine z_d (kk := ?_) | refine z_I (kk := fun _ => ?_) | refine z_J (kk := fun _ => ?_) | refine z_K (kk := fun _ => ?_) | refine z_L (kk := fun _ => ?_) | refine z_T (kk := ?_) | refine z_F (kk := ?_) | refine z_k (kk := fun _ _ _ _ _ => ?_) | refine z_w (kk := fun _ _ => ?_) | refine z_s (kk := fun _ _ _ _ => ?_) | refine z_g (kk := ?_) | refine z_h (kk := ?_)))
        (first | refine W.condD rfl (fun hc => ?_) (fun hc => ?_) | refine W.condE rfl (fun hc => ?_) (fun hc => ?_) | refine W.condN rfl (fun hc => ?_) (fun hc => ?_) | refine W.cond rfl (fun hc => ?_) (fun hc => ?_))
        · rw [if_neg (by omega), if_pos hmb', ← ha] at hacc
          (repeat (first | with_reducible refine W.seq ?_ | with_reducible refine Ops.nil ?_ | with_reducible refine W.region ?_ | refine z_p (kk := ?_) | refine z_a (kk := ?_) | refine z_y (kk := ?_) | refine z_n (kk := ?_) | refine z_u (kk := ?_) | with_reducible refine W.skip ?_ | with_reducible refine W.endb ?_ | with_reducible refine W.block ?_ | refine W.exit rfl ?_ | refine z_l (kk := ?_) | refine z_f (kk := ?_) | refine z_M (kk := ?_) | refine z_m (kk := ?_) | refine z_e (kk := ?_) | refine z_E (kk := ?_) | refine z_d (kk := ?_) | refine z_I (kk := fun _ => ?_) | refine z_J (kk := fun _ => ?_) | refine z_K (kk := fun _ => ?_) | refine z_L (kk := fun _ => ?_) | refine z_T (kk := ?_) | refine z_F (kk := ?_) | refine z_k (kk := fun _ _ _ _ _ => ?_) | refine z_w (kk := fun _ _ => ?_) | refine z_s (kk := fun _ _ _ _ => ?_) | refine z_g (kk := ?_) | refine z_h (kk := ?_)))
          refine Ops.wrO rfl rfl rfl rfl rfl rfl rfl rfl rfl rfl rfl rfl (by simp) rfl hO5 (by omega) (fun w6 _ hO6 _ _ => ?_)
          (repeat (first | with_reducible refine W.seq ?_ | with_reducible refine Ops.nil ?_ | with_reducible refine W.region ?_ | refine z_p (kk := ?_) | refine z_a (kk := ?_) | refine z_y (kk := ?_) | refine z_n (kk := ?_) | refine z_u (kk := ?_) | with_reducible refine W.skip ?_ | with_reducible refine W.endb ?_ | with_reducible refine W.block ?_ | refine W.exit rfl ?_ | refine z_l (kk := ?_) | refine z_f (kk := ?_) | refine z_M (kk := ?_) | refine z_m (kk := ?_) | refine z_e (kk := ?_) | refine z_E (kk := ?_) | refine z_d (kk := ?_) | refine z_I (kk := fun _ => ?_) | refine z_J (kk := fun _ => ?_) | refine z_K (kk := fun _ => ?_) | refine z_L (kk := fun _ => ?_) | refine z_T (kk := ?_) | refine z_F (kk := ?_) | refine z_k (kk := fun _ _ _ _ _ => ?_) | refine z_w (kk := fun _ _ => ?_) | refine z_s (kk := fun _ _ _ _ => ?_) | refine z_g (kk := ?_) | refine z_h (kk := ?_)))
          exact W.endl ⟨_, _, ⟨⟨j + 1, _, rfl, by omega, rfl, hgo _ _ hO6, by rw [hacc, hrd, hosp], by omega, by omega⟩, by omega⟩, (by repeat (first | exact trivial | refine And.intro rfl ?_))⟩
        · have hj0 : j = 0 := by omega
          rw [if_pos hj0] at hacc
          (repeat (first | with_reducible refine W.seq ?_ | with_reducible refine Ops.nil ?_ | with_reducible refine W.region ?_ | refine z_p (kk := ?_) | refine z_a (kk := ?_) | refine z_y (kk := ?_) | refine z_n (kk := ?_) | refine z_u (kk := ?_) | with_reducible refine W.skip ?_ | with_reducible refine W.endb ?_ | with_reducible refine W.block ?_ | refine W.exit rfl ?_ | refine z_l (kk := ?_) | refine z_f (kk := ?_) | refine z_M (kk := ?_) | refine z_m (kk := ?_) | refine z_e (kk := ?_) | refine z_E (kk := ?_) | refine z_d (kk := ?_) | refine z_I (kk := fun _ => ?_) | refine z_J (kk := fun _ => ?_) | refine z_K (kk := fun _ => ?_) | refine z_L (kk := fun _ => ?_) | refine z_T (kk := ?_) | refine z_F (kk := ?_) | refine z_k (kk := fun _ _ _ _ _ => ?_) | refine z_w (kk := fun _ _ => ?_) | refine z_s (kk := fun _ _ _ _ => ?_) | refine z_g (kk := ?_) | refine z_h (kk := ?_)))
          refine Ops.wrO rfl rfl rfl rfl rfl rfl rfl rfl rfl rfl rfl rfl (by simp) rfl hO5 (by omega) (fun w6 _ hO6 _ _ => ?_)
          (repeat (first | with_reducible refine W.seq ?_ | with_reducible refine Ops.nil ?_ | with_reducible refine W.region ?_ | refine z_p (kk := ?_) | refine z_a (kk := ?_) | refine z_y (kk := ?_) | refine z_n (kk := ?_) | refine z_u (kk := ?_) | with_reducible refine W.skip ?_ | with_reducible refine W.endb ?_ | with_reducible refine W.block ?_ | refine W.exit rfl ?_ | refine z_l (kk := ?_) | refine z_f (kk := ?_) | refine z_M (kk := ?_) | refine z_m (kk := ?_) | refine z_e (kk := ?_) | refine z_E (kk := ?_) | refine z_d (kk := ?_) | refine z_I (kk := fun _ => ?_) | refine z_J (kk := fun _ => ?_) | refine z_K (kk := fun _ => ?_) | refine z_L (kk := fun _ => ?_) | refine z_T (kk := ?_) | refine z_F (kk := ?_) | refine z_k (kk := fun _ _ _ _ _ => ?_) | refine z_w (kk := fun _ _ => ?_) | refine z_s (kk := fun _ _ _ _ => ?_) | refine z_g (kk := ?_) | refine z_h (kk := ?_)))
          exact W.endl ⟨_, _, ⟨⟨j + 1, _, rfl, by omega, rfl, hgo _ _ hO6, by rw [hacc]; exact hrd, by omega, by omega⟩, by omega⟩, (by repeat (first | exact trivial | refine And.intro rfl ?_))⟩
    · have hjl : j = (kid l p).length := by omega
      subst hjl
      have hval := rn_set hT hp hol (x := a) (ha.trans (accN_end (wf := fun i => ws.getD i.toNat 0))) hv
      have hbd2 : ∀ j : Nat, p ≤ j → j < l.length → 0 ≤ (os.set p a).getD j 0 ∧ (os.set p a).getD j 0 ≤ 1000000 := fun j h1 h2 => by
        by_cases e : j = p
        · subst e; omega
        · rw [Go.Proofs.Ytdiljpnfochndaa.HP.getD_set_ne (Ne.symm e)]; exact hbd j (by omega) h2
      (repeat (first | with_reducible refine W.seq ?_ | with_reducible refine Ops.nil ?_ | with_reducible refine W.region ?_ | refine z_p (kk := ?_) | refine z_a (kk := ?_) | refine z_y (kk := ?_) | refine z_n (kk := ?_) | refine z_u (kk := ?_) | with_reducible refine W.skip ?_ | with_reducible refine W.endb ?_ | with_reducible refine W.block ?_ | refine W.exit rfl ?_ | refine z_l (kk := ?_) | refine z_f (kk := ?_) | refine z_M (kk := ?_) | refine z_m (kk := ?_) | refine z_e (kk := ?_) | refine z_E (kk := ?_) | refine z_d (kk := ?_) | refine z_I (kk := fun _ => ?_) | refine z_J (kk := fun _ => ?_) | refine z_K (kk := fun _ => ?_) | refine z_L (kk := fun _ => ?_) | refine z_T (kk := ?_) | refine z_F (kk := ?_) | refine z_k (kk := fun _ _ _ _ _ => ?_) | refine z_w (kk := fun _ _ => ?_) | refine z_s (kk := fun _ _ _ _ => ?_) | refine z_g (kk := ?_) | refine z_h (kk := ?_)))
      refine W.endl ⟨_, _, ⟨⟨p, _, rfl, by omega, rfl, hO5, hosl, hval, hbd2⟩, by omega⟩, (by repeat (first | exact trivial | refine And.intro rfl ?_))⟩
  · have : q = 0 := by omega
    subst this
    have hb3 := hO.bel
    (repeat (first | with_reducible refine W.seq ?_ | with_reducible refine Ops.nil ?_ | with_reducible refine W.region ?_ | refine z_p (kk := ?_) | refine z_a (kk := ?_) | refine z_y (kk := ?_) | refine z_n (kk := ?_) | refine z_u (kk := ?_) | with_reducible refine W.skip ?_ | with_reducible refine W.endb ?_ | with_reducible refine W.block ?_ | refine W.exit rfl ?_ | refine z_l (kk := ?_) | refine z_f (kk := ?_) | refine z_M (kk := ?_) | refine z_m (kk := ?_) | refine z_e (kk := ?_) | refine z_E (kk := ?_) | refine z_d (kk := ?_) | refine z_I (kk := fun _ => ?_) | refine z_J (kk := fun _ => ?_) | refine z_K (kk := fun _ => ?_) | refine z_L (kk := fun _ => ?_) | refine z_T (kk := ?_) | refine z_F (kk := ?_) | refine z_k (kk := fun _ _ _ _ _ => ?_) | refine z_w (kk := fun _ _ => ?_) | refine z_s (kk := fun _ _ _ _ => ?_) | refine z_g (kk := ?_) | refine z_h (kk := ?_)))
    exact W.fret rfl ⟨Below.via hb1 hb3, os, ⟨hol, fun j hj => hv j (by omega) hj⟩, rfl⟩
end Go.Proofs.Ytdiljpnfochndaa
namespace Go.Proofs.Ytdiljpnfochndaa
open Go Go.RowKit Go.Proofs.Ytdiljpnfochndaa.VW
open Go.Proofs.Ytdiljpnfochndaa.HP (Nd kid wor leafB rd evB gameOf gameOf_TF ValP NV far TF Dn k_ RNeedP RN farR TK take_snoc)
attribute [local irreducible] W Ops OrdA VW.Ord
theorem rep_getD {n i : Nat} {x : Int} (h : i < n) : (List.replicate n x).getD i 0 = x := by simp [List.getD_eq_getElem?_getD, h]
theorem valP_congr {l : List Nd} {dep : List Int} {f g : Int → Int} {vs : List Int} (h : ValP l dep f vs) (e : ∀ j : Nat, j < l.length → leafB l j = true → f j = g j) : ValP l dep g vs :=
  ⟨h.len, fun j hj => by
    rw [h.at_ j hj]
    unfold NV
    split
    · rename_i hl; exact e j hj hl
    · rfl⟩
def restF (l : List Nd) (xs : List Int) (rest i : Int) : Int := if xs.contains i then wor l i else rest
set_option maxHeartbeats 2000000 in
theorem other_c {w : World} {v sv : Value} {l : List Nd} {dep xs : List Int} {rest : Int} (hTr : TreeM w v l) (hT : TF l dep) (hS : SlI w sv xs) (hls : Listed l xs) :
    Calls Try.prog 66 #[v, sv, .int .i64 rest] w (Ret fun r w' => Below w.heap.size w w' ∧ ∃ vs : List Int, ValP l dep (restF l xs rest) vs ∧ r = .int .i64 (vs.getD 0 0)) := by
  obtain ⟨At, ct, rfl⟩ := hTr.sl
  have hxl := Sl.len hS
  obtain ⟨As, cs, rfl⟩ := Sl.sl hS
  have hn := hT.n60
  have hn1 := hT.n1
  refine calls_W (vs := [_, _, _]) Try.func66 rfl (by kernel_rfl) rfl ?_
  (repeat (first | with_reducible refine W.seq ?_ | with_reducible refine Ops.nil ?_ | with_reducible refine W.region ?_ | refine z_p (kk := ?_) | refine z_a (kk := ?_) | refine z_y (kk := ?_) | refine z_n (kk := ?_) | refine z_u (kk := ?_) | with_reducible refine W.skip ?_ | with_reducible refine W.endb ?_ | with_reducible refine W.block ?_ | refine W.exit rfl ?_ | refine z_l (kk := ?_) | refine z_f (kk := ?_) | refine z_M (kk := ?_) | refine z_m (kk := ?_) | refine z_e (kk := ?_) | refine z_E (kk := ?_) | refine z_d (kk := ?_) | refine z_I (kk := fun _ => ?_) | refine z_J (kk := fun _ => ?_) | refine z_K (kk := fun _ => ?_) | refine z_L (kk := fun _ => ?_) | refine z_T (kk := ?_) | refine z_F (kk := ?_) | refine z_k (kk := fun _ _ _ _ _ => ?_) | refine z_w (kk := fun _ _ => ?_) | refine z_s (kk := fun _ _ _ _ => ?_) | refine z_g (kk := ?_) | refine z_h (kk := ?_)))
  refine Ops.mkO (w0 := w) (Value.int .i64) 0 rfl rfl rfl rfl rfl rfl rfl rfl rfl (by omega) rfl (Below.refl _ _) (fun w2 dr hO2 k2 _ => ?_)
  have hlr : (List.replicate l.length (0 : Int)).length = l.length := by simp
  generalize List.replicate l.length (0 : Int) = os2 at *
  (repeat (first | with_reducible refine W.seq ?_ | with_reducible refine Ops.nil ?_ | with_reducible refine W.region ?_ | refine z_p (kk := ?_) | refine z_a (kk := ?_) | refine z_y (kk := ?_) | refine z_n (kk := ?_) | refine z_u (kk := ?_) | with_reducible refine W.skip ?_ | with_reducible refine W.endb ?_ | with_reducible refine W.block ?_ | refine W.exit rfl ?_ | refine z_l (kk := ?_) | refine z_f (kk := ?_) | refine z_M (kk := ?_) | refine z_m (kk := ?_) | refine z_e (kk := ?_) | refine z_E (kk := ?_) | refine z_d (kk := ?_) | refine z_I (kk := fun _ => ?_) | refine z_J (kk := fun _ => ?_) | refine z_K (kk := fun _ => ?_) | refine z_L (kk := fun _ => ?_) | refine z_T (kk := ?_) | refine z_F (kk := ?_) | refine z_k (kk := fun _ _ _ _ _ => ?_) | refine z_w (kk := fun _ _ => ?_) | refine z_s (kk := fun _ _ _ _ => ?_) | refine z_g (kk := ?_) | refine z_h (kk := ?_)))
  refine W.loop (fun m ρ w3 => ∃ (i : Nat) (ws : List Int), m = l.length - i ∧ i ≤ l.length ∧ ρ = [(0, .slice At l.length ct), (1, .slice As xs.length cs), (2, .int .i64 rest), (7, .slice (some ⟨dr, 0, none⟩) l.length l.length), (8, .int .i64 i)] ∧ OI 3 (Value.int .i64) w w3 (.slice (some ⟨dr, 0, none⟩) l.length l.length) ws ∧ ws.length = l.length ∧ ∀ j : Nat, j < i → ws.getD j 0 = rest)
    ⟨_, _, ⟨0, _, rfl, Nat.zero_le _, rfl, hO2, hlr, fun j h => by omega⟩, (by repeat (first | exact trivial | refine And.intro rfl ?_))⟩ ?_
  clear hO2 hlr
  rintro m ρ w3 ⟨i, ws, rfl, hi, rfl, hO, hwl, hv⟩
  have hb3 := hO.bel
  (repeat (first | with_reducible refine W.seq ?_ | with_reducible refine Ops.nil ?_ | with_reducible refine W.region ?_ | refine z_p (kk := ?_) | refine z_a (kk := ?_) | refine z_y (kk := ?_) | refine z_n (kk := ?_) | refine z_u (kk := ?_) | with_reducible refine W.skip ?_ | with_reducible refine W.endb ?_ | with_reducible refine W.block ?_ | refine W.exit rfl ?_ | refine z_l (kk := ?_) | refine z_f (kk := ?_) | refine z_M (kk := ?_) | refine z_m (kk := ?_) | refine z_e (kk := ?_) | refine z_E (kk := ?_) | refine z_d (kk := ?_) | refine z_I (kk := fun _ => ?_) | refine z_J (kk := fun _ => ?_) | refine z_K (kk := fun _ => ?_) | refine z_L (kk := fun _ => ?_) | refine z_T (kk := ?_) | refine z_F (kk := ?_) | refine z_k (kk := fun _ _ _ _ _ => ?_) | refine z_w (kk := fun _ _ => ?_) | refine z_s (kk := fun _ _ _ _ => ?_) | refine z_g (kk := ?_) | refine z_h (kk := ?_)))
  (first | refine W.condD rfl (fun hc => ?_) (fun hc => ?_) | refine W.condE rfl (fun hc => ?_) (fun hc => ?_) | refine W.condN rfl (fun hc => ?_) (fun hc => ?_) | refine W.cond rfl (fun hc => ?_) (fun hc => ?_))
  · (repeat (first | with_reducible refine W.seq ?_ | with_reducible refine Ops.nil ?_ | with_reducible refine W.region ?_ | refine z_p (kk := ?_) | refine z_a (kk := ?_) | refine z_y (kk := ?_) | refine z_n (kk := ?_) | refine z_u (kk := ?_) | with_reducible refine W.skip ?_ | with_reducible refine W.endb ?_ | with_reducible refine W.block ?_ | refine W.exit rfl ?_ | refine z_l (kk := ?_) | refine z_f (kk := ?_) | refine z_M (kk := ?_) | refine z_m (kk := ?_) | refine z_e (kk := ?_) | refine z_E (kk := ?_) | refine z_d (kk := ?_) | refine z_I (kk := fun _ => ?_) | refine z_J (kk := fun _ => ?_) | refine z_K (kk := fun _ => ?_) | refine z_L (kk := fun _ => ?_) | refine z_T (kk := ?_) | refine z_F (kk := ?_) | refine z_k (kk := fun _ _ _ _ _ => ?_) | refine z_w (kk := fun _ _ => ?_) | refine z_s (kk := fun _ _ _ _ => ?_) | refine z_g (kk := ?_) | refine z_h (kk := ?_)))
    refine Ops.wrO rfl rfl rfl rfl rfl rfl rfl rfl rfl rfl rfl rfl (by simp) rfl hO (by omega) (fun w4 _ hO4 _ _ => ?_)
    (repeat (first | with_reducible refine W.seq ?_ | with_reducible refine Ops.nil ?_ | with_reducible refine W.region ?_ | refine z_p (kk := ?_) | refine z_a (kk := ?_) | refine z_y (kk := ?_) | refine z_n (kk := ?_) | refine z_u (kk := ?_) | with_reducible refine W.skip ?_ | with_reducible refine W.endb ?_ | with_reducible refine W.block ?_ | refine W.exit rfl ?_ | refine z_l (kk := ?_) | refine z_f (kk := ?_) | refine z_M (kk := ?_) | refine z_m (kk := ?_) | refine z_e (kk := ?_) | refine z_E (kk := ?_) | refine z_d (kk := ?_) | refine z_I (kk := fun _ => ?_) | refine z_J (kk := fun _ => ?_) | refine z_K (kk := fun _ => ?_) | refine z_L (kk := fun _ => ?_) | refine z_T (kk := ?_) | refine z_F (kk := ?_) | refine z_k (kk := fun _ _ _ _ _ => ?_) | refine z_w (kk := fun _ _ => ?_) | refine z_s (kk := fun _ _ _ _ => ?_) | refine z_g (kk := ?_) | refine z_h (kk := ?_)))
    refine W.endl ⟨_, _, ⟨⟨i + 1, _, rfl, by omega, rfl, hO4, by simp [hwl], fun j hj => ?_⟩, by omega⟩, (by repeat (first | exact trivial | refine And.intro rfl ?_))⟩
    by_cases e : i = j
    · subst e; exact Go.Proofs.Ytdiljpnfochndaa.HP.getD_set_eq (by omega)
    · rw [Go.Proofs.Ytdiljpnfochndaa.HP.getD_set_ne e]; exact hv j (by omega)
  · have hil : i = l.length := by omega
    subst hil
    (repeat (first | with_reducible refine W.seq ?_ | with_reducible refine Ops.nil ?_ | with_reducible refine W.region ?_ | refine z_p (kk := ?_) | refine z_a (kk := ?_) | refine z_y (kk := ?_) | refine z_n (kk := ?_) | refine z_u (kk := ?_) | with_reducible refine W.skip ?_ | with_reducible refine W.endb ?_ | with_reducible refine W.block ?_ | refine W.exit rfl ?_ | refine z_l (kk := ?_) | refine z_f (kk := ?_) | refine z_M (kk := ?_) | refine z_m (kk := ?_) | refine z_e (kk := ?_) | refine z_E (kk := ?_) | refine z_d (kk := ?_) | refine z_I (kk := fun _ => ?_) | refine z_J (kk := fun _ => ?_) | refine z_K (kk := fun _ => ?_) | refine z_L (kk := fun _ => ?_) | refine z_T (kk := ?_) | refine z_F (kk := ?_) | refine z_k (kk := fun _ _ _ _ _ => ?_) | refine z_w (kk := fun _ _ => ?_) | refine z_s (kk := fun _ _ _ _ => ?_) | refine z_g (kk := ?_) | refine z_h (kk := ?_)))
    refine W.loop (fun m ρ w3 => ∃ (i : Nat) (ws : List Int), m = xs.length - i ∧ i ≤ xs.length ∧ ρ = [(0, .slice At l.length ct), (1, .slice As xs.length cs), (7, .slice (some ⟨dr, 0, none⟩) l.length l.length), (9, .int .i64 i)] ∧ OI 3 (Value.int .i64) w w3 (.slice (some ⟨dr, 0, none⟩) l.length l.length) ws ∧ ws.length = l.length ∧ ∀ j : Nat, j < l.length → ws.getD j 0 = restF l (xs.take i) rest j)
      ⟨_, _, ⟨0, _, rfl, Nat.zero_le _, rfl, hO, hwl, fun j h => by rw [hv j h]; simp [restF]⟩, (by repeat (first | exact trivial | refine And.intro rfl ?_))⟩ ?_
    clear hO hwl hv hb3 hi
    rintro m ρ w3 ⟨i, ws, rfl, hi, rfl, hO, hwl, hv⟩
    have hb3 := hO.bel
    (repeat (first | with_reducible refine W.seq ?_ | with_reducible refine Ops.nil ?_ | with_reducible refine W.region ?_ | refine z_p (kk := ?_) | refine z_a (kk := ?_) | refine z_y (kk := ?_) | refine z_n (kk := ?_) | refine z_u (kk := ?_) | with_reducible refine W.skip ?_ | with_reducible refine W.endb ?_ | with_reducible refine W.block ?_ | refine W.exit rfl ?_ | refine z_l (kk := ?_) | refine z_f (kk := ?_) | refine z_M (kk := ?_) | refine z_m (kk := ?_) | refine z_e (kk := ?_) | refine z_E (kk := ?_) | refine z_d (kk := ?_) | refine z_I (kk := fun _ => ?_) | refine z_J (kk := fun _ => ?_) | refine z_K (kk := fun _ => ?_) | refine z_L (kk := fun _ => ?_) | refine z_T (kk := ?_) | refine z_F (kk := ?_) | refine z_k (kk := fun _ _ _ _ _ => ?_) | refine z_w (kk := fun _ _ => ?_) | refine z_s (kk := fun _ _ _ _ => ?_) | refine z_g (kk := ?_) | refine z_h (kk := ?_)))
    (first | refine W.condD rfl (fun hc => ?_) (fun hc => ?_) | refine W.condE rfl (fun hc => ?_) (fun hc => ?_) | refine W.condN rfl (fun hc => ?_) (fun hc => ?_) | refine W.cond rfl (fun hc => ?_) (fun hc => ?_))
    · have hil : i < xs.length := by omega
      obtain ⟨q1, q2, q3, q4⟩ := hls i hil
      (repeat (first | with_reducible refine W.seq ?_ | with_reducible refine Ops.nil ?_ | with_reducible refine W.region ?_ | refine z_p (kk := ?_) | refine z_a (kk := ?_) | refine z_y (kk := ?_) | refine z_n (kk := ?_) | refine z_u (kk := ?_) | with_reducible refine W.skip ?_ | with_reducible refine W.endb ?_ | with_reducible refine W.block ?_ | refine W.exit rfl ?_ | refine z_l (kk := ?_) | refine z_f (kk := ?_) | refine z_M (kk := ?_) | refine z_m (kk := ?_) | refine z_e (kk := ?_) | refine z_E (kk := ?_) | refine z_d (kk := ?_) | refine z_I (kk := fun _ => ?_) | refine z_J (kk := fun _ => ?_) | refine z_K (kk := fun _ => ?_) | refine z_L (kk := fun _ => ?_) | refine z_T (kk := ?_) | refine z_F (kk := ?_) | refine z_k (kk := fun _ _ _ _ _ => ?_) | refine z_w (kk := fun _ _ => ?_) | refine z_s (kk := fun _ _ _ _ => ?_) | refine z_g (kk := ?_) | refine z_h (kk := ?_)))
      refine W.ordA 14 [(0, 1), (1, 1), (2, 1), (3, 1), (4, 2), (5, 1), (6, 1), (7, 1), (8, 1), (9, 2), (10, 1), (11, 1), (12, 2), (13, 1), (14, 0)] rfl (by kernel_rfl) rfl (by kernel_rfl) (fun _ _ _ h => h) ?_
      (repeat (first | refine x_p (kk := ?_) | refine x_n (kk := ?_) | refine x_a (kk := ?_) | refine x_l (kk := ?_) | refine x_M (kk := ?_) | refine x_m (kk := ?_) | refine x_e (kk := ?_) | refine x_E (kk := ?_) | refine x_T (kk := ?_) | refine x_F (kk := ?_) | refine x_I (kk := fun _ => ?_) | refine x_J (kk := fun _ => ?_) | refine x_K (kk := fun _ => ?_) | refine x_L (kk := fun _ => ?_) | refine x_k (kk := fun _ _ _ _ _ => ?_) | refine x_w (kk := fun _ _ => ?_) | refine x_s (kk := fun _ _ _ _ => ?_) | refine x_t (kk := ?_) | refine x_f (kk := ?_)))
      refine OrdA.wrO (enc := Value.int .i64) rfl rfl rfl rfl rfl rfl rfl rfl rfl rfl rfl rfl rfl rfl (fun _ => rfl) rfl hO (fun _ h => h) (by omega) (by omega) (fun w4 w5 _ hw4 hO5 _ _ => VW.Ord.nil ?_)
      (repeat (first | with_reducible refine W.seq ?_ | with_reducible refine Ops.nil ?_ | with_reducible refine W.region ?_ | refine z_p (kk := ?_) | refine z_a (kk := ?_) | refine z_y (kk := ?_) | refine z_n (kk := ?_) | refine z_u (kk := ?_) | with_reducible refine W.skip ?_ | with_reducible refine W.endb ?_ | with_reducible refine W.block ?_ | refine W.exit rfl ?_ | refine z_l (kk := ?_) | refine z_f (kk := ?_) | refine z_M (kk := ?_) | refine z_m (kk := ?_) | refine z_e (kk := ?_) | refine z_E (kk := ?_) | refine z_d (kk := ?_) | refine z_I (kk := fun _ => ?_) | refine z_J (kk := fun _ => ?_) | refine z_K (kk := fun _ => ?_) | refine z_L (kk := fun _ => ?_) | refine z_T (kk := ?_) | refine z_F (kk := ?_) | refine z_k (kk := fun _ _ _ _ _ => ?_) | refine z_w (kk := fun _ _ => ?_) | refine z_s (kk := fun _ _ _ _ => ?_) | refine z_g (kk := ?_) | refine z_h (kk := ?_)))
      refine W.endl ⟨_, _, ⟨⟨i + 1, _, rfl, by omega, rfl, hO5, by simp [hwl], fun j hj => ?_⟩, by omega⟩, (by repeat (first | exact trivial | refine And.intro rfl ?_))⟩
      unfold restF
      rw [take_snoc xs i hil]
      by_cases e : (xs.getD i 0).toNat = j
      · rw [e, Go.Proofs.Ytdiljpnfochndaa.HP.getD_set_eq (by omega), if_pos]
        · rw [show (j : Int) = xs.getD i 0 by omega]
        · rw [show (j : Int) = xs.getD i 0 by omega]; simp
      · rw [Go.Proofs.Ytdiljpnfochndaa.HP.getD_set_ne e, hv j hj]
        unfold restF
        have : (xs.take i ++ [xs.getD i 0]).contains (j : Int) = (xs.take i).contains (j : Int) := by
          rw [List.contains_eq_mem, List.contains_eq_mem]
          congr 1
          rw [List.mem_append, List.mem_singleton]
          apply propext
          constructor
          · rintro (h | h)
            · exact h
            · omega
          · exact .inl
        rw [this]
    · have hil : i = xs.length := by omega
      subst hil
      rw [List.take_length] at hv
      (repeat (first | with_reducible refine W.seq ?_ | with_reducible refine Ops.nil ?_ | with_reducible refine W.region ?_ | refine z_p (kk := ?_) | refine z_a (kk := ?_) | refine z_y (kk := ?_) | refine z_n (kk := ?_) | refine z_u (kk := ?_) | with_reducible refine W.skip ?_ | with_reducible refine W.endb ?_ | with_reducible refine W.block ?_ | refine W.exit rfl ?_ | refine z_l (kk := ?_) | refine z_f (kk := ?_) | refine z_M (kk := ?_) | refine z_m (kk := ?_) | refine z_e (kk := ?_) | refine z_E (kk := ?_) | refine z_d (kk := ?_) | refine z_I (kk := fun _ => ?_) | refine z_J (kk := fun _ => ?_) | refine z_K (kk := fun _ => ?_) | refine z_L (kk := fun _ => ?_) | refine z_T (kk := ?_) | refine z_F (kk := ?_) | refine z_k (kk := fun _ _ _ _ _ => ?_) | refine z_w (kk := fun _ _ => ?_) | refine z_s (kk := fun _ _ _ _ => ?_) | refine z_g (kk := ?_) | refine z_h (kk := ?_)))
      refine Ops.call rfl rfl rfl rfl rfl (backed_c (hTr.below hb3) hT hO.sl hwl) (fun r w4 hR => ?_)
      obtain ⟨vs, hO4, hvs⟩ := hR
      have hb4 := hO4.bel
      have hvl := hvs.len
      obtain ⟨Av, cv, rfl⟩ := hO4.sh
      have hO4' : SlI w4 (.slice Av vs.length cv) vs := hO4.sl
      (repeat (first | with_reducible refine W.seq ?_ | with_reducible refine Ops.nil ?_ | with_reducible refine W.region ?_ | refine z_p (kk := ?_) | refine z_a (kk := ?_) | refine z_y (kk := ?_) | refine z_n (kk := ?_) | refine z_u (kk := ?_) | with_reducible refine W.skip ?_ | with_reducible refine W.endb ?_ | with_reducible refine W.block ?_ | refine W.exit rfl ?_ | refine z_l (kk := ?_) | refine z_f (kk := ?_) | refine z_M (kk := ?_) | refine z_m (kk := ?_) | refine z_e (kk := ?_) | refine z_E (kk := ?_) | refine z_d (kk := ?_) | refine z_I (kk := fun _ => ?_) | refine z_J (kk := fun _ => ?_) | refine z_K (kk := fun _ => ?_) | refine z_L (kk := fun _ => ?_) | refine z_T (kk := ?_) | refine z_F (kk := ?_) | refine z_k (kk := fun _ _ _ _ _ => ?_) | refine z_w (kk := fun _ _ => ?_) | refine z_s (kk := fun _ _ _ _ => ?_) | refine z_g (kk := ?_) | refine z_h (kk := ?_)))
      refine W.fret rfl ⟨Below.via hb3 hb4, vs, valP_congr hvs fun j hj _ => hv j hj, rfl⟩
theorem least_c {w : World} {v sv : Value} {l : List Nd} {dep xs : List Int} (hTr : TreeM w v l) (hT : TF l dep) (hS : SlI w sv xs) (hls : Listed l xs) :
    Calls Try.prog 26 #[v, sv] w (Ret fun r w' => Below w.heap.size w w' ∧ ∃ vs : List Int, ValP l dep (restF l xs (-1000000)) vs ∧ r = .int .i64 (vs.getD 0 0)) := by
  refine calls_W (vs := [_, _]) Try.func26 rfl (by kernel_rfl) rfl ?_
  (repeat (first | with_reducible refine W.seq ?_ | with_reducible refine Ops.nil ?_ | with_reducible refine W.region ?_ | refine z_p (kk := ?_) | refine z_a (kk := ?_) | refine z_y (kk := ?_) | refine z_n (kk := ?_) | refine z_u (kk := ?_) | with_reducible refine W.skip ?_ | with_reducible refine W.endb ?_ | with_reducible refine W.block ?_ | refine W.exit rfl ?_ | refine z_l (kk := ?_) | refine z_f (kk := ?_) | refine z_M (kk := ?_) | refine z_m (kk := ?_) | refine z_e (kk := ?_) | refine z_E (kk := ?_) | refine z_d (kk := ?_) | refine z_I (kk := fun _ => ?_) | refine z_J (kk := fun _ => ?_) | refine z_K (kk := fun _ => ?_) | refine z_L (kk := fun _ => ?_) | refine z_T (kk := ?_) | refine z_F (kk := ?_) | refine z_k (kk := fun _ _ _ _ _ => ?_) | refine z_w (kk := fun _ _ => ?_) | refine z_s (kk := fun _ _ _ _ => ?_) | refine z_g (kk := ?_) | refine z_h (kk := ?_)))
  refine Ops.call rfl rfl rfl rfl rfl (other_c hTr hT hS hls) (fun r w4 hR => ?_)
  obtain ⟨hb, vs, h1, rfl⟩ := hR
  (repeat (first | with_reducible refine W.seq ?_ | with_reducible refine Ops.nil ?_ | with_reducible refine W.region ?_ | refine z_p (kk := ?_) | refine z_a (kk := ?_) | refine z_y (kk := ?_) | refine z_n (kk := ?_) | refine z_u (kk := ?_) | with_reducible refine W.skip ?_ | with_reducible refine W.endb ?_ | with_reducible refine W.block ?_ | refine W.exit rfl ?_ | refine z_l (kk := ?_) | refine z_f (kk := ?_) | refine z_M (kk := ?_) | refine z_m (kk := ?_) | refine z_e (kk := ?_) | refine z_E (kk := ?_) | refine z_d (kk := ?_) | refine z_I (kk := fun _ => ?_) | refine z_J (kk := fun _ => ?_) | refine z_K (kk := fun _ => ?_) | refine z_L (kk := fun _ => ?_) | refine z_T (kk := ?_) | refine z_F (kk := ?_) | refine z_k (kk := fun _ _ _ _ _ => ?_) | refine z_w (kk := fun _ _ => ?_) | refine z_s (kk := fun _ _ _ _ => ?_) | refine z_g (kk := ?_) | refine z_h (kk := ?_)))
  exact W.fret rfl ⟨hb, vs, h1, rfl⟩
theorem most_c {w : World} {v sv : Value} {l : List Nd} {dep xs : List Int} (hTr : TreeM w v l) (hT : TF l dep) (hS : SlI w sv xs) (hls : Listed l xs) :
    Calls Try.prog 28 #[v, sv] w (Ret fun r w' => Below w.heap.size w w' ∧ ∃ vs : List Int, ValP l dep (restF l xs 1000000) vs ∧ r = .int .i64 (vs.getD 0 0)) := by
  refine calls_W (vs := [_, _]) Try.func28 rfl (by kernel_rfl) rfl ?_
  (repeat (first | with_reducible refine W.seq ?_ | with_reducible refine Ops.nil ?_ | with_reducible refine W.region ?_ | refine z_p (kk := ?_) | refine z_a (kk := ?_) | refine z_y (kk := ?_) | refine z_n (kk := ?_) | refine z_u (kk := ?_) | with_reducible refine W.skip ?_ | with_reducible refine W.endb ?_ | with_reducible refine W.block ?_ | refine W.exit rfl ?_ | refine z_l (kk := ?_) | refine z_f (kk := ?_) | refine z_M (kk := ?_) | refine z_m (kk := ?_) | refine z_e (kk := ?_) | refine z_E (kk := ?_) | refine z_d (kk := ?_) | refine z_I (kk := fun _ => ?_) | refine z_J (kk := fun _ => ?_) | refine z_K (kk := fun _ => ?_) | refine z_L (kk := fun _ => ?_) | refine z_T (kk := ?_) | refine z_F (kk := ?_) | refine z_k (kk := fun _ _ _ _ _ => ?_) | refine z_w (kk := fun _ _ => ?_) | refine z_s (kk := fun _ _ _ _ => ?_) | refine z_g (kk := ?_) | refine z_h (kk := ?_)))
  refine Ops.call rfl rfl rfl rfl rfl (other_c hTr hT hS hls) (fun r w4 hR => ?_)
  obtain ⟨hb, vs, h1, rfl⟩ := hR
  (repeat (first | with_reducible refine W.seq ?_ | with_reducible refine Ops.nil ?_ | with_reducible refine W.region ?_ | refine z_p (kk := ?_) | refine z_a (kk := ?_) | refine z_y (kk := ?_) | refine z_n (kk := ?_) | refine z_u (kk := ?_) | with_reducible refine W.skip ?_ | with_reducible refine W.endb ?_ | with_reducible refine W.block ?_ | refine W.exit rfl ?_ | refine z_l (kk := ?_) | refine z_f (kk := ?_) | refine z_M (kk := ?_) | refine z_m (kk := ?_) | refine z_e (kk := ?_) | refine z_E (kk := ?_) | refine z_d (kk := ?_) | refine z_I (kk := fun _ => ?_) | refine z_J (kk := fun _ => ?_) | refine z_K (kk := fun _ => ?_) | refine z_L (kk := fun _ => ?_) | refine z_T (kk := ?_) | refine z_F (kk := ?_) | refine z_k (kk := fun _ _ _ _ _ => ?_) | refine z_w (kk := fun _ _ => ?_) | refine z_s (kk := fun _ _ _ _ => ?_) | refine z_g (kk := ?_) | refine z_h (kk := ?_)))
  exact W.fret rfl ⟨hb, vs, h1, rfl⟩
end Go.Proofs.Ytdiljpnfochndaa
namespace Go.Proofs.Ytdiljpnfochndaa
open Go Go.RowKit Go.Proofs.Ytdiljpnfochndaa.VW
open Go.Proofs.Ytdiljpnfochndaa.HP (Nd kid wor leafB)
attribute [local irreducible] W Ops OrdA VW.Ord OrdX
theorem sl_kp' {α : Type} {enc : α → Value} {z : α} {w w' : World} {v : Value} {xs : List α} {S : Nat → Prop} (h : Sl enc z w v xs) (k : Kp S w w') (hs : 0 < xs.length → ∀ i, v.ownBlock = some i → ¬ S i) : Sl enc z w' v xs := by
  by_cases hp : 0 < xs.length
  · exact h.kp k (hs hp)
  · obtain ⟨h1, A, c, e, _⟩ := h
    exact ⟨h1, A, c, e, fun h => absurd h hp⟩
/-! ### Trees of the call's own -/
def flat : List Value → List Nd → List Value
  | c :: cs, x :: xs => c :: .int .i64 x.2 :: flat cs xs
  | _, _ => []
theorem flat_snoc : ∀ (cs : List Value) (xs : List Nd) (c : Value) (x : Nd), cs.length = xs.length → flat (cs ++ [c]) (xs ++ [x]) = flat cs xs ++ [c, .int .i64 x.2]
  | [], [], _, _, _ => rfl
  | a :: cs, y :: xs, c, x, h => by
    simp only [List.cons_append, flat]
    rw [flat_snoc cs xs c x (by simpa using h)]
  | [], _ :: _, _, _, h => by simp at h
  | _ :: _, [], _, _, h => by simp at h
theorem flat_at : ∀ (cs : List Value) (xs : List Nd) (j : Nat), cs.length = xs.length → j < xs.length → (flat cs xs).getD (j * 2) undef = cs.getD j undef ∧ (flat cs xs).getD (j * 2 + 1) undef = .int .i64 (xs.getD j ([], 0)).2
  | [], [], _, _, h => by simp at h
  | a :: cs, y :: xs, 0, h, _ => by simp [flat]
  | a :: cs, y :: xs, j + 1, h, hj => by
    have := flat_at cs xs j (by simpa using h) (by simpa using hj)
    rw [show (j + 1) * 2 = j * 2 + 1 + 1 by omega]
    simp only [flat, List.getD_cons_succ]
    exact this
  | [], _ :: _, _, h, _ => by simp at h
  | _ :: _, [], _, h, _ => by simp at h
structure TO (w0 w : World) (ov : Value) (tr : List Nd) (cvs : List Value) : Prop where
  bel : Below w0.heap.size w0 w
  ge : ∀ k, ov.ownBlock = some k → w0.heap.size ≤ k
  len : cvs.length = tr.length
  row : w.ownsRow 0 47 2 ov tr.length (flat cvs tr)
  kids : ∀ j, j < tr.length → SlI w (cvs.getD j undef) (tr.getD j ([], 0)).1 ∧ (0 < (tr.getD j ([], 0)).1.length → ∀ i, (cvs.getD j undef).ownBlock = some i → ov.ownBlock ≠ some i)
theorem TO.nil {w0 w : World} (h : Below w0.heap.size w0 w) : TO w0 w (.slice none 0 0) [] [] := ⟨h, fun k hk => by simp [Value.ownBlock] at hk, rfl, World.ownsRow_nil w 0 47 2, fun j hj => by simp at hj⟩
theorem TO.below {w0 w w' : World} {ov : Value} {tr : List Nd} {cvs : List Value} (h : TO w0 w ov tr cvs) (k : Below w.heap.size w w') : TO w0 w' ov tr cvs :=
  ⟨Below.via h.bel k, h.ge, h.len, own_kp h.row (Kp.of_below (S := fun _ => False) k) (fun _ _ e => e), fun j hj => ⟨Sl.below (h.kids j hj).1 k, (h.kids j hj).2⟩⟩
theorem TO.push {w0 w w' : World} {ov ov' cv : Value} {tr : List Nd} {cvs : List Value} {xs : List Int} {x : Int} (h : TO w0 w ov tr cvs) (hk : SlI w cv xs) (hne : 0 < xs.length → ∀ i, cv.ownBlock = some i → ov.ownBlock ≠ some i)
    (hrow : w'.ownsRow 0 47 2 ov' (tr.length + 1) (flat cvs tr ++ [cv, .int .i64 x])) (k : Kp (fun i => ov.ownBlock = some i) w w') (hn : ∀ i, ov'.ownBlock = some i → ov.ownBlock = some i ∨ w.heap.size ≤ i) : TO w0 w' ov' (tr ++ [(xs, x)]) (cvs ++ [cv]) := by
  have hl := h.len
  refine ⟨Below.put h.bel k (fun i hi => h.ge i hi), fun i hi => ?_, by simp [hl], ?_, fun j hj => ?_⟩
  · rcases hn i hi with e | e
    · exact h.ge i e
    · have := h.bel.size; omega
  · rw [flat_snoc _ _ _ _ hl, List.length_append, List.length_singleton]
    exact hrow
  · have hgen : ∀ (v : Value) (ys : List Int), SlI w v ys → (0 < ys.length → ∀ i, v.ownBlock = some i → ov.ownBlock ≠ some i) → SlI w' v ys ∧ (0 < ys.length → ∀ i, v.ownBlock = some i → ov'.ownBlock ≠ some i) := fun v ys hv hs => by
      refine ⟨sl_kp' hv k (fun hp i hi e => hs hp i hi e), fun hp i hi e => ?_⟩
      rcases hn i e with e2 | e2
      · exact hs hp i hi e2
      · have := Sl.lt hv hp hi; omega
    rw [List.length_append, List.length_singleton] at hj
    by_cases e : j = tr.length
    · subst e
      rw [app_last hl.symm, app_last rfl]
      exact hgen cv xs hk hne
    · rw [app_getD (by omega), app_getD (by omega)]
      exact hgen _ _ (h.kids j (by omega)).1 (h.kids j (by omega)).2
theorem TO.treeM {w0 w : World} {ov : Value} {tr : List Nd} {cvs : List Value} (h : TO w0 w ov tr cvs) : TreeM w ov tr := by
  by_cases hp : 0 < tr.length
  · obtain ⟨g, cap, rfl, hc⟩ := own_at h.row hp
    refine ⟨some ⟨g, 0, none⟩, cap, cvs, rfl, fun _ => ⟨_, rfl, fun j hj => ?_⟩, fun j hj => (h.kids j hj).1⟩
    have hf := flat_at cvs tr j h.len hj
    rw [add_lit, add_lit, Nat.zero_add]
    exact ⟨by rw [hc _ (by omega), hf.1], by rw [hc _ (by omega), hf.2]⟩
  · have h0 : tr = [] := List.eq_nil_of_length_eq_zero (by omega)
    subst h0
    rcases h.row.2 with ⟨h1, _⟩ | ⟨g, cap, cur, h1, _⟩
    · exact ⟨none, 0, cvs, h1, fun h => by simp at h, fun j hj => by simp at hj⟩
    · exact ⟨_, cap, cvs, h1, fun h => by simp at h, fun j hj => by simp at hj⟩
/-! ### Arguments -/
/-- A tree that comes in. -/
def ArgT (w : World) (v : Value) (l : List Nd) : Prop :=
  TreeM w v l ∧ l.length ≤ 9223372036854775807 ∧ ∀ i : Int, 0 ≤ i → i < l.length → ∃ a c A' c', v = .slice (some a) l.length c ∧ SlI w (.slice A' (kid l i).length c') (kid l i) ∧ (kid l i).length ≤ c' ∧
    (∀ w', Below w.heap.size w w' → w'.cell? (a.add (i.toNat * 2)) = some (.slice A' (kid l i).length c') ∧ w'.cell? ((a.add (i.toNat * 2)).add 1) = some (.int .i64 (wor l i)))
def Arg (w : World) (v : Value) (xs : List Int) : Prop := SlI w v xs ∧ ∃ A c, v = .slice A xs.length c ∧ xs.length ≤ c
theorem sl_take {α : Type} {enc : α → Value} {z : α} {w : World} {A : Option Addr} {m c : Nat} {xs : List α} (h : Sl enc z w (.slice A m c) xs) (q : Nat) (hq : q ≤ xs.length) : Sl enc z w (.slice A q c) (xs.take q) := by
  obtain ⟨h1, A', c', e, h2⟩ := h
  cases e
  have hl : (xs.take q).length = q := by rw [List.length_take]; omega
  refine ⟨by omega, A, c, by rw [hl], fun hp => ?_⟩
  obtain ⟨a, rfl, hc⟩ := h2 (by omega)
  refine ⟨a, rfl, fun j hj => ?_⟩
  rw [hc j (by omega)]
  simp [List.getD_eq_getElem?_getD, List.getElem?_take, show j < q by omega]
theorem list_c {w : World} {v : Value} {xs : List Int} (h : Arg w v xs) : Calls Try.prog 29 #[v] w (Ret fun r w' => OI 3 (Value.int .i64) w w' r (xs.take 61)) := by
  obtain ⟨hs, A, c, rfl, hc⟩ := h
  have hxl := Sl.len hs
  have hmin : min (xs.length : Int) 61 = ((min xs.length 61 : Nat) : Int) := by omega
  have htk : xs.take (min xs.length 61) = xs.take 61 := by
    rcases Nat.le_total xs.length 61 with h | h
    · rw [Nat.min_eq_left h, List.take_of_length_le (Nat.le_refl _), List.take_of_length_le h]
    · rw [Nat.min_eq_right h]
  refine calls_W (vs := [_]) Try.func29 rfl (by kernel_rfl) rfl ?_
  (repeat (first | with_reducible refine W.seq ?_ | with_reducible refine Ops.nil ?_ | with_reducible refine W.region ?_ | refine z_p (kk := ?_) | refine z_a (kk := ?_) | refine z_y (kk := ?_) | refine z_n (kk := ?_) | refine z_u (kk := ?_) | with_reducible refine W.skip ?_ | with_reducible refine W.endb ?_ | with_reducible refine W.block ?_ | refine W.exit rfl ?_ | refine z_l (kk := ?_) | refine z_f (kk := ?_) | refine z_M (kk := ?_) | refine z_m (kk := ?_) | refine z_e (kk := ?_) | refine z_E (kk := ?_) | refine z_d (kk := ?_) | refine z_I (kk := fun _ => ?_) | refine z_J (kk := fun _ => ?_) | refine z_K (kk := fun _ => ?_) | refine z_L (kk := fun _ => ?_) | refine z_T (kk := ?_) | refine z_F (kk := ?_) | refine z_k (kk := fun _ _ _ _ _ => ?_) | refine z_w (kk := fun _ _ => ?_) | refine z_s (kk := fun _ _ _ _ => ?_) | refine z_g (kk := ?_) | refine z_h (kk := ?_)))
  rw [hmin]
  refine Ops.slH rfl rfl rfl rfl rfl rfl rfl (by omega) (by omega) ?_
  rw [Int.toNat_natCast]
  refine Ops.appO (enc := Value.int .i64) (w0 := w) 0 rfl rfl rfl rfl rfl rfl rfl rfl rfl rfl (OI.nil (Below.refl _ _)) (sl_take hs (min xs.length 61) (by omega)) (Below.refl _ _) (fun _ => rfl) (by simp; omega) (fun v' w' hO _ _ => ?_)
  rw [htk, List.nil_append] at hO
  (repeat (first | with_reducible refine W.seq ?_ | with_reducible refine Ops.nil ?_ | with_reducible refine W.region ?_ | refine z_p (kk := ?_) | refine z_a (kk := ?_) | refine z_y (kk := ?_) | refine z_n (kk := ?_) | refine z_u (kk := ?_) | with_reducible refine W.skip ?_ | with_reducible refine W.endb ?_ | with_reducible refine W.block ?_ | refine W.exit rfl ?_ | refine z_l (kk := ?_) | refine z_f (kk := ?_) | refine z_M (kk := ?_) | refine z_m (kk := ?_) | refine z_e (kk := ?_) | refine z_E (kk := ?_) | refine z_d (kk := ?_) | refine z_I (kk := fun _ => ?_) | refine z_J (kk := fun _ => ?_) | refine z_K (kk := fun _ => ?_) | refine z_L (kk := fun _ => ?_) | refine z_T (kk := ?_) | refine z_F (kk := ?_) | refine z_k (kk := fun _ _ _ _ _ => ?_) | refine z_w (kk := fun _ _ => ?_) | refine z_s (kk := fun _ _ _ _ => ?_) | refine z_g (kk := ?_) | refine z_h (kk := ?_)))
  exact W.fret rfl hO
def treeM (l : List Nd) : List Nd := (l.take 61).map fun x => (x.1.take 61, x.2)
theorem treeM_len (l : List Nd) : (treeM l).length = min 61 l.length := by simp [treeM]
theorem treeM_succ {l : List Nd} {i : Nat} (h : i < l.length) : (l.take (i + 1)).map (fun x : Nd => (x.1.take 61, x.2)) = (l.take i).map (fun x : Nd => (x.1.take 61, x.2)) ++ [((kid l i).take 61, wor l i)] := by
  rw [List.take_succ_eq_append_getElem h, List.map_append]
  simp [kid, wor, List.getD_eq_getElem?_getD, h]
set_option maxHeartbeats 2000000 in
theorem tree_c {w : World} {v : Value} {l : List Nd} (h : ArgT w v l) : Calls Try.prog 17 #[v] w (Ret fun r w' => Below w.heap.size w w' ∧ TreeM w' r (treeM l)) := by
  obtain ⟨hT, hll, hA⟩ := h
  obtain ⟨At, ct, rfl⟩ := hT.sl
  refine calls_W (vs := [_]) Try.func17 rfl (by kernel_rfl) rfl ?_
  (repeat (first | with_reducible refine W.seq ?_ | with_reducible refine Ops.nil ?_ | with_reducible refine W.region ?_ | refine z_p (kk := ?_) | refine z_a (kk := ?_) | refine z_y (kk := ?_) | refine z_n (kk := ?_) | refine z_u (kk := ?_) | with_reducible refine W.skip ?_ | with_reducible refine W.endb ?_ | with_reducible refine W.block ?_ | refine W.exit rfl ?_ | refine z_l (kk := ?_) | refine z_f (kk := ?_) | refine z_M (kk := ?_) | refine z_m (kk := ?_) | refine z_e (kk := ?_) | refine z_E (kk := ?_) | refine z_d (kk := ?_) | refine z_I (kk := fun _ => ?_) | refine z_J (kk := fun _ => ?_) | refine z_K (kk := fun _ => ?_) | refine z_L (kk := fun _ => ?_) | refine z_T (kk := ?_) | refine z_F (kk := ?_) | refine z_k (kk := fun _ _ _ _ _ => ?_) | refine z_w (kk := fun _ _ => ?_) | refine z_s (kk := fun _ _ _ _ => ?_) | refine z_g (kk := ?_) | refine z_h (kk := ?_)))
  refine W.loop (fun m ρ w3 => ∃ (i : Nat) (ov : Value) (cvs : List Value), m = l.length - i ∧ i ≤ l.length ∧ i ≤ 61 ∧ ρ = [(0, .slice At l.length ct), (3, ov), (4, .int .i64 i)] ∧ TO w w3 ov ((l.take i).map fun x => (x.1.take 61, x.2)) cvs)
    ⟨_, _, ⟨0, _, _, rfl, Nat.zero_le _, Nat.zero_le _, rfl, TO.nil (Below.refl _ _)⟩, (by repeat (first | exact trivial | refine And.intro rfl ?_))⟩ ?_
  rintro m ρ w3 ⟨i, ov, cvs, rfl, hi, hi2, rfl, hO⟩
  have hb3 := hO.bel
  by_cases hgo : i < l.length ∧ i ≤ 60
  · obtain ⟨g1, g2⟩ := hgo
    (repeat (first | with_reducible refine W.seq ?_ | with_reducible refine Ops.nil ?_ | with_reducible refine W.region ?_ | refine z_p (kk := ?_) | refine z_a (kk := ?_) | refine z_y (kk := ?_) | refine z_n (kk := ?_) | refine z_u (kk := ?_) | with_reducible refine W.skip ?_ | with_reducible refine W.endb ?_ | with_reducible refine W.block ?_ | refine W.exit rfl ?_ | refine z_l (kk := ?_) | refine z_f (kk := ?_) | refine z_M (kk := ?_) | refine z_m (kk := ?_) | refine z_e (kk := ?_) | refine z_E (kk := ?_) | refine z_d (kk := ?_) | refine z_I (kk := fun _ => ?_) | refine z_J (kk := fun _ => ?_) | refine z_K (kk := fun _ => ?_) | refine z_L (kk := fun _ => ?_) | refine z_T (kk := ?_) | refine z_F (kk := ?_) | refine z_k (kk := fun _ _ _ _ _ => ?_) | refine z_w (kk := fun _ _ => ?_) | refine z_s (kk := fun _ _ _ _ => ?_) | refine z_g (kk := ?_) | refine z_h (kk := ?_)))
    refine W.condT rfl (by first | rfl | assumption | (simp only [bnf] <;> omega) | (simp only [*, bnf]; done) | fail) ?_
    (repeat (first | with_reducible refine W.seq ?_ | with_reducible refine Ops.nil ?_ | with_reducible refine W.region ?_ | refine z_p (kk := ?_) | refine z_a (kk := ?_) | refine z_y (kk := ?_) | refine z_n (kk := ?_) | refine z_u (kk := ?_) | with_reducible refine W.skip ?_ | with_reducible refine W.endb ?_ | with_reducible refine W.block ?_ | refine W.exit rfl ?_ | refine z_l (kk := ?_) | refine z_f (kk := ?_) | refine z_M (kk := ?_) | refine z_m (kk := ?_) | refine z_e (kk := ?_) | refine z_E (kk := ?_) | refine z_d (kk := ?_) | refine z_I (kk := fun _ => ?_) | refine z_J (kk := fun _ => ?_) | refine z_K (kk := fun _ => ?_) | refine z_L (kk := fun _ => ?_) | refine z_T (kk := ?_) | refine z_F (kk := ?_) | refine z_k (kk := fun _ _ _ _ _ => ?_) | refine z_w (kk := fun _ _ => ?_) | refine z_s (kk := fun _ _ _ _ => ?_) | refine z_g (kk := ?_) | refine z_h (kk := ?_)))
    obtain ⟨a, c, A', c', e, hsl, hcap, hcell⟩ := hA i (by omega) (by omega)
    cases e
    refine W.ord (hm := rfl) 99 (fun w' => Below w.heap.size w w') [(0, 1), (1, 1), (2, 1), (3, 1), (4, 1), (5, 2), (7, 1), (8, 1), (9, 1), (10, 1), (11, 2), (6, 0), (12, 1), (13, 0), (14, 0), (15, 1)] (by kernel_rfl) rfl (by kernel_rfl) (fun w4 k4 _ => ⟨Below.put hb3 k4 (fun _ e => e.elim), ?_⟩)
    have hO4 := hO.below (Kp.below k4 (Nat.le_refl _) (fun _ _ e => e))
    (repeat (first | refine y_p (kk := ?_) | refine y_n (kk := ?_) | refine y_a (kk := ?_) | refine y_l (kk := ?_) | refine y_M (kk := ?_) | refine y_m (kk := ?_) | refine y_e (kk := ?_) | refine y_E (kk := ?_) | refine y_T (kk := ?_) | refine y_F (kk := ?_) | refine y_I (kk := fun _ => ?_) | refine y_J (kk := fun _ => ?_) | refine y_K (kk := fun _ => ?_) | refine y_L (kk := fun _ => ?_) | refine y_t (kk := ?_) | refine y_f (kk := ?_)))
    refine VW.Ord.pure rfl rfl rfl rfl (fun _ _ _ h => h) (fun w => EV.idx rfl rfl rfl rfl rfl (by omega) (by omega)) ?_
    refine VW.Ord.pure rfl rfl rfl rfl (fun _ _ _ h => h) (fun w => EV.fld rfl rfl (ev_top _ _ _)) ?_
    rw [add_zero']
    refine VW.Ord.read' rfl rfl rfl rfl (fun _ _ _ h => h) (fun w hw => EV.ld rfl rfl (ev_top _ _ _) (hcell w hw).1) ?_
    (repeat (first | refine y_p (kk := ?_) | refine y_n (kk := ?_) | refine y_a (kk := ?_) | refine y_l (kk := ?_) | refine y_M (kk := ?_) | refine y_m (kk := ?_) | refine y_e (kk := ?_) | refine y_E (kk := ?_) | refine y_T (kk := ?_) | refine y_F (kk := ?_) | refine y_I (kk := fun _ => ?_) | refine y_J (kk := fun _ => ?_) | refine y_K (kk := fun _ => ?_) | refine y_L (kk := fun _ => ?_) | refine y_k (kk := fun _ _ _ _ _ => ?_) | refine y_w (kk := fun _ _ => ?_) | refine y_s (kk := fun _ _ _ _ => ?_) | refine y_t (kk := ?_) | refine y_f (kk := ?_)))
    refine VW.Ord.effF rfl (Ops.call rfl rfl rfl rfl rfl (list_c ⟨Sl.below hsl hO4.bel, A', c', rfl, hcap⟩) (fun r w5 hR => Ops.nil (W.endl ⟨Below.via hO4.bel hR.bel, ?_⟩)))
    have hO5 := hO4.below hR.bel
    have hr1 : r.oneCell' = true := by obtain ⟨A, c, rfl⟩ := hR.sh; rfl
    refine VW.Ord.pure rfl rfl rfl rfl (fun _ _ _ h => h) (fun w => EV.bld2 rfl rfl rfl rfl rfl hr1 rfl) ?_
    refine VW.Ord.push2 (w0 := w) rfl rfl rfl rfl rfl rfl rfl rfl rfl rfl rfl rfl rfl (fun _ => rfl) hr1 rfl hO5.row (by simp; omega) below_F hO5.bel hO5.ge (fun lv' p w6 hF6 hrow k6 hn6 => ?_)
    have hO6 := hO5.push (hR.sl (z := (0 : Int))) (fun hp j hj e => by have := hR.ge j hj; have := (hO4.row.lt j e).2; omega) hrow k6 hn6
    rw [← treeM_succ g1] at hO6
    (repeat (first | refine y_p (kk := ?_) | refine y_n (kk := ?_) | refine y_a (kk := ?_) | refine y_l (kk := ?_) | refine y_M (kk := ?_) | refine y_m (kk := ?_) | refine y_e (kk := ?_) | refine y_E (kk := ?_) | refine y_T (kk := ?_) | refine y_F (kk := ?_) | refine y_I (kk := fun _ => ?_) | refine y_J (kk := fun _ => ?_) | refine y_K (kk := fun _ => ?_) | refine y_L (kk := fun _ => ?_) | refine y_k (kk := fun _ _ _ _ _ => ?_) | refine y_w (kk := fun _ _ => ?_) | refine y_s (kk := fun _ _ _ _ => ?_) | refine y_t (kk := ?_) | refine y_f (kk := ?_)))
    refine VW.Ord.nil ?_
    (repeat (first | with_reducible refine W.seq ?_ | with_reducible refine Ops.nil ?_ | with_reducible refine W.region ?_ | refine z_p (kk := ?_) | refine z_a (kk := ?_) | refine z_y (kk := ?_) | refine z_n (kk := ?_) | refine z_u (kk := ?_) | with_reducible refine W.skip ?_ | with_reducible refine W.endb ?_ | with_reducible refine W.block ?_ | refine W.exit rfl ?_ | refine z_l (kk := ?_) | refine z_f (kk := ?_) | refine z_M (kk := ?_) | refine z_m (kk := ?_) | refine z_e (kk := ?_) | refine z_E (kk := ?_) | refine z_d (kk := ?_) | refine z_I (kk := fun _ => ?_) | refine z_J (kk := fun _ => ?_) | refine z_K (kk := fun _ => ?_) | refine z_L (kk := fun _ => ?_) | refine z_T (kk := ?_) | refine z_F (kk := ?_) | refine z_k (kk := fun _ _ _ _ _ => ?_) | refine z_w (kk := fun _ _ => ?_) | refine z_s (kk := fun _ _ _ _ => ?_) | refine z_g (kk := ?_) | refine z_h (kk := ?_)))
    exact W.endl ⟨_, _, ⟨⟨i + 1, _, _, rfl, by omega, by omega, rfl, hO6⟩, by omega⟩, (by repeat (first | exact trivial | refine And.intro rfl ?_))⟩
  · have hfin : (l.take i).map (fun x : Nd => (x.1.take 61, x.2)) = treeM l := by
      unfold treeM
      by_cases h1 : i < l.length
      · rw [show i = 61 by omega]
      · rw [List.take_of_length_le (by omega), List.take_of_length_le (by omega)]
    rw [hfin] at hO
    by_cases h1 : i < l.length
    · have h2 : ¬ i ≤ 60 := by omega
      (repeat (first | with_reducible refine W.seq ?_ | with_reducible refine Ops.nil ?_ | with_reducible refine W.region ?_ | refine z_p (kk := ?_) | refine z_a (kk := ?_) | refine z_y (kk := ?_) | refine z_n (kk := ?_) | refine z_u (kk := ?_) | with_reducible refine W.skip ?_ | with_reducible refine W.endb ?_ | with_reducible refine W.block ?_ | refine W.exit rfl ?_ | refine z_l (kk := ?_) | refine z_f (kk := ?_) | refine z_M (kk := ?_) | refine z_m (kk := ?_) | refine z_e (kk := ?_) | refine z_E (kk := ?_) | refine z_d (kk := ?_) | refine z_I (kk := fun _ => ?_) | refine z_J (kk := fun _ => ?_) | refine z_K (kk := fun _ => ?_) | refine z_L (kk := fun _ => ?_) | refine z_T (kk := ?_) | refine z_F (kk := ?_) | refine z_k (kk := fun _ _ _ _ _ => ?_) | refine z_w (kk := fun _ _ => ?_) | refine z_s (kk := fun _ _ _ _ => ?_) | refine z_g (kk := ?_) | refine z_h (kk := ?_)))
      refine W.condF rfl (by first | rfl | assumption | (simp only [bnf] <;> omega) | (simp only [*, bnf]; done) | fail) ?_
      (repeat (first | with_reducible refine W.seq ?_ | with_reducible refine Ops.nil ?_ | with_reducible refine W.region ?_ | refine z_p (kk := ?_) | refine z_a (kk := ?_) | refine z_y (kk := ?_) | refine z_n (kk := ?_) | refine z_u (kk := ?_) | with_reducible refine W.skip ?_ | with_reducible refine W.endb ?_ | with_reducible refine W.block ?_ | refine W.exit rfl ?_ | refine z_l (kk := ?_) | refine z_f (kk := ?_) | refine z_M (kk := ?_) | refine z_m (kk := ?_) | refine z_e (kk := ?_) | refine z_E (kk := ?_) | refine z_d (kk := ?_) | refine z_I (kk := fun _ => ?_) | refine z_J (kk := fun _ => ?_) | refine z_K (kk := fun _ => ?_) | refine z_L (kk := fun _ => ?_) | refine z_T (kk := ?_) | refine z_F (kk := ?_) | refine z_k (kk := fun _ _ _ _ _ => ?_) | refine z_w (kk := fun _ _ => ?_) | refine z_s (kk := fun _ _ _ _ => ?_) | refine z_g (kk := ?_) | refine z_h (kk := ?_)))
      exact W.fret rfl ⟨hb3, hO.treeM⟩
    · (repeat (first | with_reducible refine W.seq ?_ | with_reducible refine Ops.nil ?_ | with_reducible refine W.region ?_ | refine z_p (kk := ?_) | refine z_a (kk := ?_) | refine z_y (kk := ?_) | refine z_n (kk := ?_) | refine z_u (kk := ?_) | with_reducible refine W.skip ?_ | with_reducible refine W.endb ?_ | with_reducible refine W.block ?_ | refine W.exit rfl ?_ | refine z_l (kk := ?_) | refine z_f (kk := ?_) | refine z_M (kk := ?_) | refine z_m (kk := ?_) | refine z_e (kk := ?_) | refine z_E (kk := ?_) | refine z_d (kk := ?_) | refine z_I (kk := fun _ => ?_) | refine z_J (kk := fun _ => ?_) | refine z_K (kk := fun _ => ?_) | refine z_L (kk := fun _ => ?_) | refine z_T (kk := ?_) | refine z_F (kk := ?_) | refine z_k (kk := fun _ _ _ _ _ => ?_) | refine z_w (kk := fun _ _ => ?_) | refine z_s (kk := fun _ _ _ _ => ?_) | refine z_g (kk := ?_) | refine z_h (kk := ?_)))
      refine W.condF rfl (by first | rfl | assumption | (simp only [bnf] <;> omega) | (simp only [*, bnf]; done) | fail) ?_
      (repeat (first | with_reducible refine W.seq ?_ | with_reducible refine Ops.nil ?_ | with_reducible refine W.region ?_ | refine z_p (kk := ?_) | refine z_a (kk := ?_) | refine z_y (kk := ?_) | refine z_n (kk := ?_) | refine z_u (kk := ?_) | with_reducible refine W.skip ?_ | with_reducible refine W.endb ?_ | with_reducible refine W.block ?_ | refine W.exit rfl ?_ | refine z_l (kk := ?_) | refine z_f (kk := ?_) | refine z_M (kk := ?_) | refine z_m (kk := ?_) | refine z_e (kk := ?_) | refine z_E (kk := ?_) | refine z_d (kk := ?_) | refine z_I (kk := fun _ => ?_) | refine z_J (kk := fun _ => ?_) | refine z_K (kk := fun _ => ?_) | refine z_L (kk := fun _ => ?_) | refine z_T (kk := ?_) | refine z_F (kk := ?_) | refine z_k (kk := fun _ _ _ _ _ => ?_) | refine z_w (kk := fun _ _ => ?_) | refine z_s (kk := fun _ _ _ _ => ?_) | refine z_g (kk := ?_) | refine z_h (kk := ?_)))
      exact W.fret rfl ⟨hb3, hO.treeM⟩
end Go.Proofs.Ytdiljpnfochndaa
