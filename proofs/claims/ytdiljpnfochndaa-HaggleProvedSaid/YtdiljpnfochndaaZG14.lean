/- A part of the walk: what this seat's statements share. -/
import Derived.Test.YtdiljpnfochndaaZG13
import Derived.Test.YtdiljpnfochndaaZG6
import Derived.Test.YtdiljpnfochndaaZG11
import Derived.ChangeSlices
import Derived.ChangeArms
set_option linter.unusedVariables false
set_option linter.unusedSimpArgs false
set_option linter.unusedSectionVars false
/- Values in bounds; and that there are values. -/
namespace Go.Proofs.Ytdiljpnfochndaa.HP
theorem val_bd {l : List Nd} {dep : List Int} (hT : TF l dep) {wf : Int → Int} {vs : List Int} (hv : ValP l dep wf vs) {lo hi : Int} (h : ∀ i : Nat, i < l.length → leafB l i = true → lo ≤ wf i ∧ wf i ≤ hi) : ∀ j : Nat, j < l.length → lo ≤ vs.getD j 0 ∧ vs.getD j 0 ≤ hi := by
  refine tree_ind hT (Q := fun j => lo ≤ vs.getD j 0 ∧ vs.getD j 0 ≤ hi) fun j hj hk => ?_
  have kD : ∀ x ∈ kid l j, lo ≤ rd vs x ∧ rd vs x ≤ hi := fun x hx => by obtain ⟨i, rfl, hi, h⟩ := hk x hx; exact h
  rw [hv.at_ j hj]
  unfold NV
  by_cases hl : leafB l j = true
  · rw [if_pos hl]; exact h j hj hl
  · have hne := leaf_ne hl
    obtain ⟨c, hc⟩ := List.exists_mem_of_ne_nil _ hne
    rw [if_neg hl]
    by_cases he : evB dep j = true
    · rw [if_pos he, maxL_ge hne, maxL_le hne]
      exact ⟨⟨c, hc, (kD c hc).1⟩, fun x hx => (kD x hx).2⟩
    · rw [if_neg he, minL_ge hne, minL_le hne]
      exact ⟨fun x hx => (kD x hx).1, ⟨c, hc, (kD c hc).2⟩⟩
theorem val_ex {l : List Nd} {dep : List Int} (hT : TF l dep) (wf : Int → Int) : ∃ vs, ValP l dep wf vs := by
  have key : ∀ d q : Nat, l.length - q = d → q ≤ l.length → ∃ os : List Int, os.length = l.length ∧ ∀ j : Nat, q ≤ j → j < l.length → os.getD j 0 = NV l dep wf os j := by
    intro d
    induction d with
    | zero => intro q hd hq; exact ⟨List.replicate l.length 0, by simp, fun j h1 h2 => by omega⟩
    | succ d ih =>
      intro q hd hq
      obtain ⟨os, h1, h2⟩ := ih (q + 1) (by omega) (by omega)
      exact ⟨os.set q (NV l dep wf os q), by simp [h1], val_set hT (by omega) h1 rfl h2⟩
  obtain ⟨os, h1, h2⟩ := key _ 0 rfl (Nat.zero_le _)
  exact ⟨os, h1, fun j hj => h2 j (Nat.zero_le _) hj⟩
theorem wor_bd {l : List Nd} {dep : List Int} (hT : TF l dep) {vs : List Int} (hv : ValP l dep (wor l) vs) : -100 ≤ vs.getD 0 0 ∧ vs.getD 0 0 ≤ 100 :=
  val_bd hT hv (fun i hi _ => ⟨(hT.wor i hi).1, (hT.wor i hi).2.1⟩) 0 (by have := hT.n1; omega)
end Go.Proofs.Ytdiljpnfochndaa.HP
namespace Go.Proofs.Ytdiljpnfochndaa
open Go Go.RowKit Go.Proofs.Ytdiljpnfochndaa.VW
open Go.Proofs.Ytdiljpnfochndaa.HP (tameM tame_TK modM modM_bd Nd kid wor leafB rd gameOf gameOf_TF TF TK turnM turn_len turn_TK ValP far NeedP srS)
attribute [local irreducible] W Ops OrdA VW.Ord OrdX
theorem turn_take {l : List Nd} {i : Nat} (h : i < l.length) : (l.take (i + 1)).map (fun x : Nd => (x.1.map (· + 1), -x.2)) = (l.take i).map (fun x : Nd => (x.1.map (· + 1), -x.2)) ++ [((kid l i).map (· + 1), - wor l i)] := by
  rw [List.take_succ_eq_append_getElem h, List.map_append]
  simp [kid, wor, List.getD_eq_getElem?_getD, h]
theorem map_take_succ {xs : List Int} {j : Nat} (h : j < xs.length) : (xs.take (j + 1)).map (· + 1) = (xs.take j).map (· + 1) ++ [xs.getD j 0 + 1] := by
  rw [Go.Proofs.Ytdiljpnfochndaa.HP.take_snoc xs j h, List.map_append]
  rfl
def TurnR (l : List Nd) (w w' : World) (r : Value) : Prop := (if l.length = 60 then none else gameOf l).elim (r = .tuple #[.slice none 0 0, .int .i64 2]) fun dep => ∃ ov cvs, r = .tuple #[ov, .int .i64 0] ∧ TO w w' ov (turnM l) cvs
set_option maxHeartbeats 2000000 in
theorem turned_c {w : World} {v : Value} {l : List Nd} (hT : TreeM w v l) (hl : l.length ≤ 9223372036854775807) :
    Calls Try.prog 37 #[v] w (Ret fun r w' => Below w.heap.size w w' ∧ TurnR l w w' r) := by
  obtain ⟨At, ct, rfl⟩ := hT.sl
  refine calls_W (vs := [_]) Try.func37 rfl (by kernel_rfl) rfl ?_
  (repeat (first | with_reducible refine W.seq ?_ | with_reducible refine Ops.nil ?_ | with_reducible refine W.region ?_ | refine z_p (kk := ?_) | refine z_a (kk := ?_) | refine z_y (kk := ?_) | refine z_n (kk := ?_) | refine z_u (kk := ?_) | with_reducible refine W.skip ?_ | with_reducible refine W.endb ?_ | with_reducible refine W.block ?_ | refine W.exit rfl ?_ | refine z_l (kk := ?_) | refine z_f (kk := ?_) | refine z_M (kk := ?_) | refine z_m (kk := ?_) | refine z_e (kk := ?_) | refine z_E (kk := ?_) | refine z_d (kk := ?_) | refine z_I (kk := fun _ => ?_) | refine z_J (kk := fun _ => ?_) | refine z_K (kk := fun _ => ?_) | refine z_L (kk := fun _ => ?_) | refine z_T (kk := ?_) | refine z_F (kk := ?_) | refine z_k (kk := fun _ _ _ _ _ => ?_) | refine z_w (kk := fun _ _ => ?_) | refine z_s (kk := fun _ _ _ _ => ?_) | refine z_g (kk := ?_) | refine z_h (kk := ?_)))
  refine Ops.call rfl rfl rfl rfl rfl (newGame_c hT hl) (fun r w1 hR => ?_)
  obtain ⟨hb1, hR⟩ := hR
  cases hg : gameOf l with
  | none =>
    rw [hg] at hR
    obtain ⟨p, hp1, rfl⟩ := hR
    (repeat (first | with_reducible refine W.seq ?_ | with_reducible refine Ops.nil ?_ | with_reducible refine W.region ?_ | refine z_p (kk := ?_) | refine z_a (kk := ?_) | refine z_y (kk := ?_) | refine z_n (kk := ?_) | refine z_u (kk := ?_) | with_reducible refine W.skip ?_ | with_reducible refine W.endb ?_ | with_reducible refine W.block ?_ | refine W.exit rfl ?_ | refine z_l (kk := ?_) | refine z_f (kk := ?_) | refine z_M (kk := ?_) | refine z_m (kk := ?_) | refine z_e (kk := ?_) | refine z_E (kk := ?_) | refine z_d (kk := ?_) | refine z_I (kk := fun _ => ?_) | refine z_J (kk := fun _ => ?_) | refine z_K (kk := fun _ => ?_) | refine z_L (kk := fun _ => ?_) | refine z_T (kk := ?_) | refine z_F (kk := ?_) | refine z_k (kk := fun _ _ _ _ _ => ?_) | refine z_w (kk := fun _ _ => ?_) | refine z_s (kk := fun _ _ _ _ => ?_) | refine z_g (kk := ?_) | refine z_h (kk := ?_)))
    refine W.condT rfl (by first | rfl | assumption | (simp only [bnf] <;> omega) | (simp only [*, bnf]; done) | fail) ?_
    (repeat (first | with_reducible refine W.seq ?_ | with_reducible refine Ops.nil ?_ | with_reducible refine W.region ?_ | refine z_p (kk := ?_) | refine z_a (kk := ?_) | refine z_y (kk := ?_) | refine z_n (kk := ?_) | refine z_u (kk := ?_) | with_reducible refine W.skip ?_ | with_reducible refine W.endb ?_ | with_reducible refine W.block ?_ | refine W.exit rfl ?_ | refine z_l (kk := ?_) | refine z_f (kk := ?_) | refine z_M (kk := ?_) | refine z_m (kk := ?_) | refine z_e (kk := ?_) | refine z_E (kk := ?_) | refine z_d (kk := ?_) | refine z_I (kk := fun _ => ?_) | refine z_J (kk := fun _ => ?_) | refine z_K (kk := fun _ => ?_) | refine z_L (kk := fun _ => ?_) | refine z_T (kk := ?_) | refine z_F (kk := ?_) | refine z_k (kk := fun _ _ _ _ _ => ?_) | refine z_w (kk := fun _ _ => ?_) | refine z_s (kk := fun _ _ _ _ => ?_) | refine z_g (kk := ?_) | refine z_h (kk := ?_)))
    exact W.fret rfl ⟨hb1, by simp only [TurnR, hg, ite_self]; rfl⟩
  | some dep =>
    rw [hg] at hR
    obtain ⟨g, rfl, hgs, hG⟩ := hR
    have hTF := gameOf_TF hg
    have hn60 := hTF.n60
    have hn1 := hTF.n1
    by_cases h60 : l.length = 60
    · (repeat (first | with_reducible refine W.seq ?_ | with_reducible refine Ops.nil ?_ | with_reducible refine W.region ?_ | refine z_p (kk := ?_) | refine z_a (kk := ?_) | refine z_y (kk := ?_) | refine z_n (kk := ?_) | refine z_u (kk := ?_) | with_reducible refine W.skip ?_ | with_reducible refine W.endb ?_ | with_reducible refine W.block ?_ | refine W.exit rfl ?_ | refine z_l (kk := ?_) | refine z_f (kk := ?_) | refine z_M (kk := ?_) | refine z_m (kk := ?_) | refine z_e (kk := ?_) | refine z_E (kk := ?_) | refine z_d (kk := ?_) | refine z_I (kk := fun _ => ?_) | refine z_J (kk := fun _ => ?_) | refine z_K (kk := fun _ => ?_) | refine z_L (kk := fun _ => ?_) | refine z_T (kk := ?_) | refine z_F (kk := ?_) | refine z_k (kk := fun _ _ _ _ _ => ?_) | refine z_w (kk := fun _ _ => ?_) | refine z_s (kk := fun _ _ _ _ => ?_) | refine z_g (kk := ?_) | refine z_h (kk := ?_)))
      refine W.condT rfl (by first | rfl | assumption | (simp only [bnf] <;> omega) | (simp only [*, bnf]; done) | fail) ?_
      (repeat (first | with_reducible refine W.seq ?_ | with_reducible refine Ops.nil ?_ | with_reducible refine W.region ?_ | refine z_p (kk := ?_) | refine z_a (kk := ?_) | refine z_y (kk := ?_) | refine z_n (kk := ?_) | refine z_u (kk := ?_) | with_reducible refine W.skip ?_ | with_reducible refine W.endb ?_ | with_reducible refine W.block ?_ | refine W.exit rfl ?_ | refine z_l (kk := ?_) | refine z_f (kk := ?_) | refine z_M (kk := ?_) | refine z_m (kk := ?_) | refine z_e (kk := ?_) | refine z_E (kk := ?_) | refine z_d (kk := ?_) | refine z_I (kk := fun _ => ?_) | refine z_J (kk := fun _ => ?_) | refine z_K (kk := fun _ => ?_) | refine z_L (kk := fun _ => ?_) | refine z_T (kk := ?_) | refine z_F (kk := ?_) | refine z_k (kk := fun _ _ _ _ _ => ?_) | refine z_w (kk := fun _ _ => ?_) | refine z_s (kk := fun _ _ _ _ => ?_) | refine z_g (kk := ?_) | refine z_h (kk := ?_)))
      exact W.fret rfl ⟨hb1, by simp only [TurnR]; rw [if_pos h60]; rfl⟩
    · have h60' : ¬ ((l.length : Int) = 60) := by omega
      (repeat (first | with_reducible refine W.seq ?_ | with_reducible refine Ops.nil ?_ | with_reducible refine W.region ?_ | refine z_p (kk := ?_) | refine z_a (kk := ?_) | refine z_y (kk := ?_) | refine z_n (kk := ?_) | refine z_u (kk := ?_) | with_reducible refine W.skip ?_ | with_reducible refine W.endb ?_ | with_reducible refine W.block ?_ | refine W.exit rfl ?_ | refine z_l (kk := ?_) | refine z_f (kk := ?_) | refine z_M (kk := ?_) | refine z_m (kk := ?_) | refine z_e (kk := ?_) | refine z_E (kk := ?_) | refine z_d (kk := ?_) | refine z_I (kk := fun _ => ?_) | refine z_J (kk := fun _ => ?_) | refine z_K (kk := fun _ => ?_) | refine z_L (kk := fun _ => ?_) | refine z_T (kk := ?_) | refine z_F (kk := ?_) | refine z_k (kk := fun _ _ _ _ _ => ?_) | refine z_w (kk := fun _ _ => ?_) | refine z_s (kk := fun _ _ _ _ => ?_) | refine z_g (kk := ?_) | refine z_h (kk := ?_)))
      refine W.condF rfl (by first | rfl | assumption | (simp only [bnf] <;> omega) | (simp only [*, bnf]; done) | fail) ?_
      (repeat (first | with_reducible refine W.seq ?_ | with_reducible refine Ops.nil ?_ | with_reducible refine W.region ?_ | refine z_p (kk := ?_) | refine z_a (kk := ?_) | refine z_y (kk := ?_) | refine z_n (kk := ?_) | refine z_u (kk := ?_) | with_reducible refine W.skip ?_ | with_reducible refine W.endb ?_ | with_reducible refine W.block ?_ | refine W.exit rfl ?_ | refine z_l (kk := ?_) | refine z_f (kk := ?_) | refine z_M (kk := ?_) | refine z_m (kk := ?_) | refine z_e (kk := ?_) | refine z_E (kk := ?_) | refine z_d (kk := ?_) | refine z_I (kk := fun _ => ?_) | refine z_J (kk := fun _ => ?_) | refine z_K (kk := fun _ => ?_) | refine z_L (kk := fun _ => ?_) | refine z_T (kk := ?_) | refine z_F (kk := ?_) | refine z_k (kk := fun _ _ _ _ _ => ?_) | refine z_w (kk := fun _ _ => ?_) | refine z_s (kk := fun _ _ _ _ => ?_) | refine z_g (kk := ?_) | refine z_h (kk := ?_)))
      refine Ops.bs1 rfl rfl rfl rfl rfl rfl rfl rfl rfl (fun w2 r2 hM2 => ?_)
      have hb2 : Below w.heap.size w w2 := Below.put hb1 hM2.kp (fun _ e => e.elim)
      have hk2 : SlI w2 (.slice (some ⟨r2, 0, none⟩) 1 1) [1] := own_sl (z := (0 : Int)) (xs := [1]) (own_one hM2)
      refine Ops.bldG (cs := #[.slice (some ⟨r2, 0, none⟩) 1 1, .int .i64 0]) rfl rfl rfl rfl rfl rfl (by kernel_rfl) ?_
      refine Ops.bsG (cs := #[.slice (some ⟨r2, 0, none⟩) 1 1, .int .i64 0]) rfl rfl rfl rfl rfl rfl rfl rfl rfl (by kernel_rfl) (fun w3 r3 hM3 => ?_)
      have hb3 : Below w.heap.size w w3 := Below.put hb2 hM3.kp (fun _ e => e.elim)
      have e2 := hM2.r_eq
      have e3 := hM3.r_eq
      have e4 := hM2.size
      have e5 := hb1.size
      have hTO3 : TO w w3 (.slice (some ⟨r3, 0, none⟩) 1 1) [([1], 0)] [.slice (some ⟨r2, 0, none⟩) 1 1] := by
        refine ⟨hb3, fun k hk => by simp [Value.ownBlock] at hk; omega, rfl, ⟨rfl, .inr ⟨r3, 1, _, rfl, Nat.zero_le _, hM3.at_, Nat.le_refl _, by simp [maxLen], rfl, rfl⟩⟩, fun j hj => ?_⟩
        have : j = 0 := by simp at hj; omega
        subst this
        refine ⟨Sl.kp hk2 hM3.kp (fun _ _ e => e), fun _ i hi => ?_⟩
        simp [Value.ownBlock] at hi ⊢
        omega
      (repeat (first | with_reducible refine W.seq ?_ | with_reducible refine Ops.nil ?_ | with_reducible refine W.region ?_ | refine z_p (kk := ?_) | refine z_a (kk := ?_) | refine z_y (kk := ?_) | refine z_n (kk := ?_) | refine z_u (kk := ?_) | with_reducible refine W.skip ?_ | with_reducible refine W.endb ?_ | with_reducible refine W.block ?_ | refine W.exit rfl ?_ | refine z_l (kk := ?_) | refine z_f (kk := ?_) | refine z_M (kk := ?_) | refine z_m (kk := ?_) | refine z_e (kk := ?_) | refine z_E (kk := ?_) | refine z_d (kk := ?_) | refine z_I (kk := fun _ => ?_) | refine z_J (kk := fun _ => ?_) | refine z_K (kk := fun _ => ?_) | refine z_L (kk := fun _ => ?_) | refine z_T (kk := ?_) | refine z_F (kk := ?_) | refine z_k (kk := fun _ _ _ _ _ => ?_) | refine z_w (kk := fun _ _ => ?_) | refine z_s (kk := fun _ _ _ _ => ?_) | refine z_g (kk := ?_) | refine z_h (kk := ?_)))
      refine W.loop (fun m ρ w4 => ∃ (i : Nat) (ov : Value) (cvs : List Value), m = l.length - i ∧ i ≤ l.length ∧ ρ = [(6, ov), (27, .slice At l.length ct), (28, .int .i64 l.length), (29, .int .i64 i)] ∧ TO w w4 ov (([1], 0) :: (l.take i).map fun x => (x.1.map (· + 1), -x.2)) cvs)
        ⟨_, _, ⟨0, _, _, rfl, Nat.zero_le _, rfl, hTO3⟩, (by repeat (first | exact trivial | refine And.intro rfl ?_))⟩ ?_
      clear hTO3 hk2
      rintro m ρ w4 ⟨i, ov, cvs, rfl, hi, rfl, hO⟩
      have hb4 := hO.bel
      (repeat (first | with_reducible refine W.seq ?_ | with_reducible refine Ops.nil ?_ | with_reducible refine W.region ?_ | refine z_p (kk := ?_) | refine z_a (kk := ?_) | refine z_y (kk := ?_) | refine z_n (kk := ?_) | refine z_u (kk := ?_) | with_reducible refine W.skip ?_ | with_reducible refine W.endb ?_ | with_reducible refine W.block ?_ | refine W.exit rfl ?_ | refine z_l (kk := ?_) | refine z_f (kk := ?_) | refine z_M (kk := ?_) | refine z_m (kk := ?_) | refine z_e (kk := ?_) | refine z_E (kk := ?_) | refine z_d (kk := ?_) | refine z_I (kk := fun _ => ?_) | refine z_J (kk := fun _ => ?_) | refine z_K (kk := fun _ => ?_) | refine z_L (kk := fun _ => ?_) | refine z_T (kk := ?_) | refine z_F (kk := ?_) | refine z_k (kk := fun _ _ _ _ _ => ?_) | refine z_w (kk := fun _ _ => ?_) | refine z_s (kk := fun _ _ _ _ => ?_) | refine z_g (kk := ?_) | refine z_h (kk := ?_)))
      (first | refine W.condD rfl (fun hc => ?_) (fun hc => ?_) | refine W.condE rfl (fun hc => ?_) (fun hc => ?_) | refine W.condN rfl (fun hc => ?_) (fun hc => ?_) | refine W.cond rfl (fun hc => ?_) (fun hc => ?_))
      · have hil : i < l.length := by omega
        have hkl := hTF.klen i hil
        have hkin := hTF.kin i
        have hwo := hTF.wor i hil
        (repeat (first | with_reducible refine W.seq ?_ | with_reducible refine Ops.nil ?_ | with_reducible refine W.region ?_ | refine z_p (kk := ?_) | refine z_a (kk := ?_) | refine z_y (kk := ?_) | refine z_n (kk := ?_) | refine z_u (kk := ?_) | with_reducible refine W.skip ?_ | with_reducible refine W.endb ?_ | with_reducible refine W.block ?_ | refine W.exit rfl ?_ | refine z_l (kk := ?_) | refine z_f (kk := ?_) | refine z_M (kk := ?_) | refine z_m (kk := ?_) | refine z_e (kk := ?_) | refine z_E (kk := ?_) | refine z_d (kk := ?_) | refine z_I (kk := fun _ => ?_) | refine z_J (kk := fun _ => ?_) | refine z_K (kk := fun _ => ?_) | refine z_L (kk := fun _ => ?_) | refine z_T (kk := ?_) | refine z_F (kk := ?_) | refine z_k (kk := fun _ _ _ _ _ => ?_) | refine z_w (kk := fun _ _ => ?_) | refine z_s (kk := fun _ _ _ _ => ?_) | refine z_g (kk := ?_) | refine z_h (kk := ?_)))
        refine Ops.alloc rfl rfl rfl rfl (fun w5 b8 hM5 => ?_)
        refine Ops.st2 rfl rfl rfl rfl rfl rfl rfl rfl hM5.at_ (fun w6 hu6 => ?_)
        have k6 := hM5.kp.trans hu6.kp
        have e5 := hM5.r_eq
        have hb46 : Below w4.heap.size w4 w6 := Below.put (Below.refl _ _) k6 (fun i hi => by rcases hi with hi | hi; exact hi.elim; omega)
        have hB8 := hu6.blk
        (repeat (first | with_reducible refine W.seq ?_ | with_reducible refine Ops.nil ?_ | with_reducible refine W.region ?_ | refine z_p (kk := ?_) | refine z_a (kk := ?_) | refine z_y (kk := ?_) | refine z_n (kk := ?_) | refine z_u (kk := ?_) | with_reducible refine W.skip ?_ | with_reducible refine W.endb ?_ | with_reducible refine W.block ?_ | refine W.exit rfl ?_ | refine z_l (kk := ?_) | refine z_f (kk := ?_) | refine z_M (kk := ?_) | refine z_m (kk := ?_) | refine z_e (kk := ?_) | refine z_E (kk := ?_) | refine z_d (kk := ?_) | refine z_I (kk := fun _ => ?_) | refine z_J (kk := fun _ => ?_) | refine z_K (kk := fun _ => ?_) | refine z_L (kk := fun _ => ?_) | refine z_T (kk := ?_) | refine z_F (kk := ?_) | refine z_k (kk := fun _ _ _ _ _ => ?_) | refine z_w (kk := fun _ _ => ?_) | refine z_s (kk := fun _ _ _ _ => ?_) | refine z_g (kk := ?_) | refine z_h (kk := ?_)))
        refine Ops.bldG (cs := #[.slice none 0 0, .int .i64 (0 - wor l i)]) rfl rfl rfl rfl rfl rfl (by kernel_rfl) ?_
        refine Ops.alloc rfl rfl rfl rfl (fun w7 b9 hM7 => ?_)
        refine Ops.st2 rfl rfl rfl rfl rfl rfl rfl rfl hM7.at_ (fun w8 hu8 => ?_)
        have k8 := hM7.kp.trans hu8.kp
        have e7 := hM7.r_eq
        have e6 := hM5.size
        have hsz := hu6.size
        have hb48 : Below w4.heap.size w4 w8 := Below.put hb46 k8 (fun i hi => by rcases hi with hi | hi; exact hi.elim; omega)
        have hB9 := hu8.blk
        have hB8' := Blk.kp hB8 k8 (fun hi => by rcases hi with hi | hi; exact hi; omega)
        have hb08 := Below.via hb4 hb48
        (repeat (first | with_reducible refine W.seq ?_ | with_reducible refine Ops.nil ?_ | with_reducible refine W.region ?_ | refine z_p (kk := ?_) | refine z_a (kk := ?_) | refine z_y (kk := ?_) | refine z_n (kk := ?_) | refine z_u (kk := ?_) | with_reducible refine W.skip ?_ | with_reducible refine W.endb ?_ | with_reducible refine W.block ?_ | refine W.exit rfl ?_ | refine z_l (kk := ?_) | refine z_f (kk := ?_) | refine z_M (kk := ?_) | refine z_m (kk := ?_) | refine z_e (kk := ?_) | refine z_E (kk := ?_) | refine z_d (kk := ?_) | refine z_I (kk := fun _ => ?_) | refine z_J (kk := fun _ => ?_) | refine z_K (kk := fun _ => ?_) | refine z_L (kk := fun _ => ?_) | refine z_T (kk := ?_) | refine z_F (kk := ?_) | refine z_k (kk := fun _ _ _ _ _ => ?_) | refine z_w (kk := fun _ _ => ?_) | refine z_s (kk := fun _ _ _ _ => ?_) | refine z_g (kk := ?_) | refine z_h (kk := ?_)))
        refine W.loop (fun m ρ w9 => ∃ (j : Nat) (lv : Value), m = (kid l i).length - j ∧ j ≤ (kid l i).length ∧ (∃ A c, ρ = [(6, ov), (9, .pointer (some ⟨b9, 0, none⟩)), (27, .slice At l.length ct), (28, .int .i64 l.length), (29, .int .i64 i), (38, .slice A (kid l i).length c), (39, .int .i64 (kid l i).length), (40, .int .i64 j)] ∧ SlI w (.slice A (kid l i).length c) (kid l i)) ∧ OI 3 (Value.int .i64) w4 w9 lv ((kid l i).take j |>.map (· + 1)) ∧ Blk w9 b9 #[lv, .int .i64 (0 - wor l i)] 47 ∧ lv.ownBlock ≠ some b9)
          ⟨_, _, ⟨0, _, rfl, Nat.zero_le _, ⟨_, _, rfl, by assumption⟩, OI.nil hb48, hB9, by simp [Value.ownBlock]⟩, (by repeat (first | exact trivial | refine And.intro rfl ?_))⟩ ?_
        rintro m ρ w9 ⟨j, lv, rfl, hj, ⟨Ak, ck, rfl, hks⟩, hL, hB, hne⟩
        have hb9 := Below.via hb4 hL.bel
        (repeat (first | with_reducible refine W.seq ?_ | with_reducible refine Ops.nil ?_ | with_reducible refine W.region ?_ | refine z_p (kk := ?_) | refine z_a (kk := ?_) | refine z_y (kk := ?_) | refine z_n (kk := ?_) | refine z_u (kk := ?_) | with_reducible refine W.skip ?_ | with_reducible refine W.endb ?_ | with_reducible refine W.block ?_ | refine W.exit rfl ?_ | refine z_l (kk := ?_) | refine z_f (kk := ?_) | refine z_M (kk := ?_) | refine z_m (kk := ?_) | refine z_e (kk := ?_) | refine z_E (kk := ?_) | refine z_d (kk := ?_) | refine z_I (kk := fun _ => ?_) | refine z_J (kk := fun _ => ?_) | refine z_K (kk := fun _ => ?_) | refine z_L (kk := fun _ => ?_) | refine z_T (kk := ?_) | refine z_F (kk := ?_) | refine z_k (kk := fun _ _ _ _ _ => ?_) | refine z_w (kk := fun _ _ => ?_) | refine z_s (kk := fun _ _ _ _ => ?_) | refine z_g (kk := ?_) | refine z_h (kk := ?_)))
        (first | refine W.condD rfl (fun hc => ?_) (fun hc => ?_) | refine W.condE rfl (fun hc => ?_) (fun hc => ?_) | refine W.condN rfl (fun hc => ?_) (fun hc => ?_) | refine W.cond rfl (fun hc => ?_) (fun hc => ?_))
        · have hjl : j < (kid l i).length := by omega
          have hkj := hkin j hil hjl
          simp only [Go.Proofs.Ytdiljpnfochndaa.HP.k_] at hkj
          have hb9lt := hB.lt
          (repeat (first | with_reducible refine W.seq ?_ | with_reducible refine Ops.nil ?_ | with_reducible refine W.region ?_ | refine z_p (kk := ?_) | refine z_a (kk := ?_) | refine z_y (kk := ?_) | refine z_n (kk := ?_) | refine z_u (kk := ?_) | with_reducible refine W.skip ?_ | with_reducible refine W.endb ?_ | with_reducible refine W.block ?_ | refine W.exit rfl ?_ | refine z_l (kk := ?_) | refine z_f (kk := ?_) | refine z_M (kk := ?_) | refine z_m (kk := ?_) | refine z_e (kk := ?_) | refine z_E (kk := ?_) | refine z_d (kk := ?_) | refine z_I (kk := fun _ => ?_) | refine z_J (kk := fun _ => ?_) | refine z_K (kk := fun _ => ?_) | refine z_L (kk := fun _ => ?_) | refine z_T (kk := ?_) | refine z_F (kk := ?_) | refine z_k (kk := fun _ _ _ _ _ => ?_) | refine z_w (kk := fun _ _ => ?_) | refine z_s (kk := fun _ _ _ _ => ?_) | refine z_g (kk := ?_) | refine z_h (kk := ?_)))
          refine Ops.pushO (enc := Value.int .i64) rfl rfl rfl rfl rfl rfl rfl rfl rfl rfl rfl rfl (fun _ => rfl) rfl hL (by simp; omega) (fun lv' _ w10 hL10 k10 hn10 => ?_)
          have hB10 := hB.kp k10 (fun e => hne e)
          (repeat (first | with_reducible refine W.seq ?_ | with_reducible refine Ops.nil ?_ | with_reducible refine W.region ?_ | refine z_p (kk := ?_) | refine z_a (kk := ?_) | refine z_y (kk := ?_) | refine z_n (kk := ?_) | refine z_u (kk := ?_) | with_reducible refine W.skip ?_ | with_reducible refine W.endb ?_ | with_reducible refine W.block ?_ | refine W.exit rfl ?_ | refine z_l (kk := ?_) | refine z_f (kk := ?_) | refine z_M (kk := ?_) | refine z_m (kk := ?_) | refine z_e (kk := ?_) | refine z_E (kk := ?_) | refine z_d (kk := ?_) | refine z_I (kk := fun _ => ?_) | refine z_J (kk := fun _ => ?_) | refine z_K (kk := fun _ => ?_) | refine z_L (kk := fun _ => ?_) | refine z_T (kk := ?_) | refine z_F (kk := ?_) | refine z_k (kk := fun _ _ _ _ _ => ?_) | refine z_w (kk := fun _ _ => ?_) | refine z_s (kk := fun _ _ _ _ => ?_) | refine z_g (kk := ?_) | refine z_h (kk := ?_)))
          have h1 : lv'.oneCell' = true := by obtain ⟨A, c, rfl⟩ := hL10.sh; rfl
          refine Ops.st rfl rfl rfl rfl rfl rfl h1 hB10 (by simp) (fun w11 hu11 => ?_)
          have hne2 : lv'.ownBlock ≠ some b9 := fun e => by
            rcases hn10 b9 e with h | h
            · exact hne h
            · omega
          have hL11 := hL10.kp hu11.kp (fun i hi => ⟨by omega, fun e => hne2 (by rw [e, hi])⟩)
          have hB11 := hu11.blk
          rw [← map_take_succ hjl] at hL11
          (repeat (first | with_reducible refine W.seq ?_ | with_reducible refine Ops.nil ?_ | with_reducible refine W.region ?_ | refine z_p (kk := ?_) | refine z_a (kk := ?_) | refine z_y (kk := ?_) | refine z_n (kk := ?_) | refine z_u (kk := ?_) | with_reducible refine W.skip ?_ | with_reducible refine W.endb ?_ | with_reducible refine W.block ?_ | refine W.exit rfl ?_ | refine z_l (kk := ?_) | refine z_f (kk := ?_) | refine z_M (kk := ?_) | refine z_m (kk := ?_) | refine z_e (kk := ?_) | refine z_E (kk := ?_) | refine z_d (kk := ?_) | refine z_I (kk := fun _ => ?_) | refine z_J (kk := fun _ => ?_) | refine z_K (kk := fun _ => ?_) | refine z_L (kk := fun _ => ?_) | refine z_T (kk := ?_) | refine z_F (kk := ?_) | refine z_k (kk := fun _ _ _ _ _ => ?_) | refine z_w (kk := fun _ _ => ?_) | refine z_s (kk := fun _ _ _ _ => ?_) | refine z_g (kk := ?_) | refine z_h (kk := ?_)))
          exact W.endl ⟨_, _, ⟨⟨j + 1, _, rfl, by omega, ⟨_, _, rfl, hks⟩, hL11, hB11, hne2⟩, by omega⟩, (by repeat (first | exact trivial | refine And.intro rfl ?_))⟩
        · have hjl : j = (kid l i).length := by omega
          subst hjl
          rw [List.take_length] at hL
          have hO9 := hO.below hL.bel
          have h1 : lv.oneCell' = true := by obtain ⟨A, c, rfl⟩ := hL.sh; rfl
          (repeat (first | with_reducible refine W.seq ?_ | with_reducible refine Ops.nil ?_ | with_reducible refine W.region ?_ | refine z_p (kk := ?_) | refine z_a (kk := ?_) | refine z_y (kk := ?_) | refine z_n (kk := ?_) | refine z_u (kk := ?_) | with_reducible refine W.skip ?_ | with_reducible refine W.endb ?_ | with_reducible refine W.block ?_ | refine W.exit rfl ?_ | refine z_l (kk := ?_) | refine z_f (kk := ?_) | refine z_M (kk := ?_) | refine z_m (kk := ?_) | refine z_e (kk := ?_) | refine z_E (kk := ?_) | refine z_d (kk := ?_) | refine z_I (kk := fun _ => ?_) | refine z_J (kk := fun _ => ?_) | refine z_K (kk := fun _ => ?_) | refine z_L (kk := fun _ => ?_) | refine z_T (kk := ?_) | refine z_F (kk := ?_) | refine z_k (kk := fun _ _ _ _ _ => ?_) | refine z_w (kk := fun _ _ => ?_) | refine z_s (kk := fun _ _ _ _ => ?_) | refine z_g (kk := ?_) | refine z_h (kk := ?_)))
          refine Ops.ld2 rfl rfl rfl rfl rfl rfl (hB.cell rfl) (by rw [add_lit]; exact hB.cell rfl) ?_
          refine Ops.push2 rfl rfl rfl rfl rfl rfl rfl rfl rfl rfl rfl (fun _ => rfl) h1 rfl hO9.row (by simp; omega) (fun lv' p w10 hrow k10 hn10 => ?_)
          have hO10 := hO9.push (hL.sl (z := (0 : Int))) (fun hp q hq e => by have := hL.ge q hq; have := (hO.row.lt q e).2; omega) hrow k10 hn10
          rw [List.cons_append, show (0 - wor l i) = - wor l i by omega, ← turn_take hil] at hO10
          (repeat (first | with_reducible refine W.seq ?_ | with_reducible refine Ops.nil ?_ | with_reducible refine W.region ?_ | refine z_p (kk := ?_) | refine z_a (kk := ?_) | refine z_y (kk := ?_) | refine z_n (kk := ?_) | refine z_u (kk := ?_) | with_reducible refine W.skip ?_ | with_reducible refine W.endb ?_ | with_reducible refine W.block ?_ | refine W.exit rfl ?_ | refine z_l (kk := ?_) | refine z_f (kk := ?_) | refine z_M (kk := ?_) | refine z_m (kk := ?_) | refine z_e (kk := ?_) | refine z_E (kk := ?_) | refine z_d (kk := ?_) | refine z_I (kk := fun _ => ?_) | refine z_J (kk := fun _ => ?_) | refine z_K (kk := fun _ => ?_) | refine z_L (kk := fun _ => ?_) | refine z_T (kk := ?_) | refine z_F (kk := ?_) | refine z_k (kk := fun _ _ _ _ _ => ?_) | refine z_w (kk := fun _ _ => ?_) | refine z_s (kk := fun _ _ _ _ => ?_) | refine z_g (kk := ?_) | refine z_h (kk := ?_)))
          exact W.endl ⟨_, _, ⟨⟨i + 1, _, _, rfl, by omega, rfl, hO10⟩, by omega⟩, (by repeat (first | exact trivial | refine And.intro rfl ?_))⟩
      · have hil : i = l.length := by omega
        subst hil
        rw [List.take_length] at hO
        (repeat (first | with_reducible refine W.seq ?_ | with_reducible refine Ops.nil ?_ | with_reducible refine W.region ?_ | refine z_p (kk := ?_) | refine z_a (kk := ?_) | refine z_y (kk := ?_) | refine z_n (kk := ?_) | refine z_u (kk := ?_) | with_reducible refine W.skip ?_ | with_reducible refine W.endb ?_ | with_reducible refine W.block ?_ | refine W.exit rfl ?_ | refine z_l (kk := ?_) | refine z_f (kk := ?_) | refine z_M (kk := ?_) | refine z_m (kk := ?_) | refine z_e (kk := ?_) | refine z_E (kk := ?_) | refine z_d (kk := ?_) | refine z_I (kk := fun _ => ?_) | refine z_J (kk := fun _ => ?_) | refine z_K (kk := fun _ => ?_) | refine z_L (kk := fun _ => ?_) | refine z_T (kk := ?_) | refine z_F (kk := ?_) | refine z_k (kk := fun _ _ _ _ _ => ?_) | refine z_w (kk := fun _ _ => ?_) | refine z_s (kk := fun _ _ _ _ => ?_) | refine z_g (kk := ?_) | refine z_h (kk := ?_)))
        exact W.fret rfl ⟨hb4, by simp only [TurnR]; rw [if_neg h60, hg]; exact ⟨ov, cvs, rfl, hO⟩⟩
set_option maxHeartbeats 4000000 in
theorem turnedLaw_c {w : World} {pv wv : Value} {ps ws : List Int} {b : Int} (hp : SlI w pv ps) (hw : SlI w wv ws) :
    Calls Try.prog 7 #[pv, wv, .int .i64 b] w (Ret fun r w' => r = .bool true ∧ Below w.heap.size w w') := by
  refine calls_W (vs := [_, _, _]) Try.func7 rfl (by kernel_rfl) rfl ?_
  (repeat (first | with_reducible refine W.seq ?_ | with_reducible refine Ops.nil ?_ | with_reducible refine W.region ?_ | refine z_p (kk := ?_) | refine z_a (kk := ?_) | refine z_y (kk := ?_) | refine z_n (kk := ?_) | refine z_u (kk := ?_) | with_reducible refine W.skip ?_ | with_reducible refine W.endb ?_ | with_reducible refine W.block ?_ | refine W.exit rfl ?_ | refine z_l (kk := ?_) | refine z_f (kk := ?_) | refine z_M (kk := ?_) | refine z_m (kk := ?_) | refine z_e (kk := ?_) | refine z_E (kk := ?_) | refine z_d (kk := ?_) | refine z_I (kk := fun _ => ?_) | refine z_J (kk := fun _ => ?_) | refine z_K (kk := fun _ => ?_) | refine z_L (kk := fun _ => ?_) | refine z_T (kk := ?_) | refine z_F (kk := ?_) | refine z_k (kk := fun _ _ _ _ _ => ?_) | refine z_w (kk := fun _ _ => ?_) | refine z_s (kk := fun _ _ _ _ => ?_) | refine z_g (kk := ?_) | refine z_h (kk := ?_)))
  refine Ops.call rfl rfl rfl rfl rfl (tame_c (most := 59) hp hw (by decide) (by decide)) (fun tv w1 hR => ?_)
  obtain ⟨hT1, hb1⟩ := hR
  have hTK := tame_TK (ps := ps) (ws := ws) (most := 59) (by decide) (by decide)
  have hl59 : (tameM ps ws 59).length ≤ 59 := by rw [Go.Proofs.Ytdiljpnfochndaa.HP.tameM_len]; unfold Go.Proofs.Ytdiljpnfochndaa.HP.rounds; omega
  generalize tameM ps ws 59 = l at *
  obtain ⟨dep, hg⟩ := hTK.game
  have hTF := gameOf_TF hg
  have hTK' := turn_TK hTK hl59
  obtain ⟨dep', hg'⟩ := hTK'.game
  have hTF' := gameOf_TF hg'
  have hn1 := hTF.n1
  have hmb := modM_bd b (n := 201) (by omega)
  (repeat (first | with_reducible refine W.seq ?_ | with_reducible refine Ops.nil ?_ | with_reducible refine W.region ?_ | refine z_p (kk := ?_) | refine z_a (kk := ?_) | refine z_y (kk := ?_) | refine z_n (kk := ?_) | refine z_u (kk := ?_) | with_reducible refine W.skip ?_ | with_reducible refine W.endb ?_ | with_reducible refine W.block ?_ | refine W.exit rfl ?_ | refine z_l (kk := ?_) | refine z_f (kk := ?_) | refine z_M (kk := ?_) | refine z_m (kk := ?_) | refine z_e (kk := ?_) | refine z_E (kk := ?_) | refine z_d (kk := ?_) | refine z_I (kk := fun _ => ?_) | refine z_J (kk := fun _ => ?_) | refine z_K (kk := fun _ => ?_) | refine z_L (kk := fun _ => ?_) | refine z_T (kk := ?_) | refine z_F (kk := ?_) | refine z_k (kk := fun _ _ _ _ _ => ?_) | refine z_w (kk := fun _ _ => ?_) | refine z_s (kk := fun _ _ _ _ => ?_) | refine z_g (kk := ?_) | refine z_h (kk := ?_)))
  refine Ops.callS rfl rfl rfl rfl rfl (mod_c _ _ _ (by decide) (by decide)) ?_
  generalize modM b 201 = b' at *
  obtain ⟨At, ct, rfl⟩ := hT1.sl
  (repeat (first | with_reducible refine W.seq ?_ | with_reducible refine Ops.nil ?_ | with_reducible refine W.region ?_ | refine z_p (kk := ?_) | refine z_a (kk := ?_) | refine z_y (kk := ?_) | refine z_n (kk := ?_) | refine z_u (kk := ?_) | with_reducible refine W.skip ?_ | with_reducible refine W.endb ?_ | with_reducible refine W.block ?_ | refine W.exit rfl ?_ | refine z_l (kk := ?_) | refine z_f (kk := ?_) | refine z_M (kk := ?_) | refine z_m (kk := ?_) | refine z_e (kk := ?_) | refine z_E (kk := ?_) | refine z_d (kk := ?_) | refine z_I (kk := fun _ => ?_) | refine z_J (kk := fun _ => ?_) | refine z_K (kk := fun _ => ?_) | refine z_L (kk := fun _ => ?_) | refine z_T (kk := ?_) | refine z_F (kk := ?_) | refine z_k (kk := fun _ _ _ _ _ => ?_) | refine z_w (kk := fun _ _ => ?_) | refine z_s (kk := fun _ _ _ _ => ?_) | refine z_g (kk := ?_) | refine z_h (kk := ?_)))
  refine Ops.call rfl rfl rfl rfl rfl (turned_c hT1 (by omega)) (fun r w2 hR => ?_)
  obtain ⟨hb2, hR⟩ := hR
  unfold TurnR at hR
  rw [if_neg (by omega), hg] at hR
  obtain ⟨ov, cvs, rfl, hO⟩ := hR
  have hb02 := Below.via hb1 hb2
  have hT2 := hT1.below hb2
  have hU2 := hO.treeM
  obtain ⟨Au, cu, rfl⟩ := hU2.sl
  have hul : (turnM l).length ≤ 60 := by rw [turn_len]; omega
  (repeat (first | with_reducible refine W.seq ?_ | with_reducible refine Ops.nil ?_ | with_reducible refine W.region ?_ | refine z_p (kk := ?_) | refine z_a (kk := ?_) | refine z_y (kk := ?_) | refine z_n (kk := ?_) | refine z_u (kk := ?_) | with_reducible refine W.skip ?_ | with_reducible refine W.endb ?_ | with_reducible refine W.block ?_ | refine W.exit rfl ?_ | refine z_l (kk := ?_) | refine z_f (kk := ?_) | refine z_M (kk := ?_) | refine z_m (kk := ?_) | refine z_e (kk := ?_) | refine z_E (kk := ?_) | refine z_d (kk := ?_) | refine z_I (kk := fun _ => ?_) | refine z_J (kk := fun _ => ?_) | refine z_K (kk := fun _ => ?_) | refine z_L (kk := fun _ => ?_) | refine z_T (kk := ?_) | refine z_F (kk := ?_) | refine z_k (kk := fun _ _ _ _ _ => ?_) | refine z_w (kk := fun _ _ => ?_) | refine z_s (kk := fun _ _ _ _ => ?_) | refine z_g (kk := ?_) | refine z_h (kk := ?_)))
  refine Ops.call rfl rfl rfl rfl rfl (value_c hT2 (by omega)) (fun r w3 hR => ?_)
  obtain ⟨hb3, hR⟩ := hR
  rw [hg] at hR
  obtain ⟨vs, hvs, rfl⟩ := hR
  have hb03 := Below.via hb02 hb3
  have hT3 := hT2.below hb3
  have hU3 := hU2.below hb3
  (repeat (first | with_reducible refine W.seq ?_ | with_reducible refine Ops.nil ?_ | with_reducible refine W.region ?_ | refine z_p (kk := ?_) | refine z_a (kk := ?_) | refine z_y (kk := ?_) | refine z_n (kk := ?_) | refine z_u (kk := ?_) | with_reducible refine W.skip ?_ | with_reducible refine W.endb ?_ | with_reducible refine W.block ?_ | refine W.exit rfl ?_ | refine z_l (kk := ?_) | refine z_f (kk := ?_) | refine z_M (kk := ?_) | refine z_m (kk := ?_) | refine z_e (kk := ?_) | refine z_E (kk := ?_) | refine z_d (kk := ?_) | refine z_I (kk := fun _ => ?_) | refine z_J (kk := fun _ => ?_) | refine z_K (kk := fun _ => ?_) | refine z_L (kk := fun _ => ?_) | refine z_T (kk := ?_) | refine z_F (kk := ?_) | refine z_k (kk := fun _ _ _ _ _ => ?_) | refine z_w (kk := fun _ _ => ?_) | refine z_s (kk := fun _ _ _ _ => ?_) | refine z_g (kk := ?_) | refine z_h (kk := ?_)))
  refine Ops.call rfl rfl rfl rfl rfl (value_c hU3 (by omega)) (fun r w4 hR => ?_)
  obtain ⟨hb4, hR⟩ := hR
  rw [hg'] at hR
  obtain ⟨us, hus, rfl⟩ := hR
  have hb04 := Below.via hb03 hb4
  have hT4 := hT3.below hb4
  have hU4 := hU3.below hb4
  have hval := Go.Proofs.Ytdiljpnfochndaa.HP.turn_val hTF hTF' hvs hus
  rw [hval]
  (repeat (first | with_reducible refine W.seq ?_ | with_reducible refine Ops.nil ?_ | with_reducible refine W.region ?_ | refine z_p (kk := ?_) | refine z_a (kk := ?_) | refine z_y (kk := ?_) | refine z_n (kk := ?_) | refine z_u (kk := ?_) | with_reducible refine W.skip ?_ | with_reducible refine W.endb ?_ | with_reducible refine W.block ?_ | refine W.exit rfl ?_ | refine z_l (kk := ?_) | refine z_f (kk := ?_) | refine z_M (kk := ?_) | refine z_m (kk := ?_) | refine z_e (kk := ?_) | refine z_E (kk := ?_) | refine z_d (kk := ?_) | refine z_I (kk := fun _ => ?_) | refine z_J (kk := fun _ => ?_) | refine z_K (kk := fun _ => ?_) | refine z_L (kk := fun _ => ?_) | refine z_T (kk := ?_) | refine z_F (kk := ?_) | refine z_k (kk := fun _ _ _ _ _ => ?_) | refine z_w (kk := fun _ _ => ?_) | refine z_s (kk := fun _ _ _ _ => ?_) | refine z_g (kk := ?_) | refine z_h (kk := ?_)))
  refine Ops.call rfl rfl rfl rfl rfl (refute_c (b := b' - 100) hT4 (by omega)) (fun r w5 hR => ?_)
  obtain ⟨hb5, hQ⟩ := hR
  have hb05 := Below.via hb04 hb5
  have hT5 := hT4.below hb5
  have hU5 := hU4.below hb5
  unfold ProvedR at hQ
  rw [if_pos (by omega), hg] at hQ
  obtain ⟨es, hE, hGE, hQ⟩ := hQ
  obtain ⟨qv, qe, qs, rfl, hqs, hqcase⟩ : ∃ qv qe qs, r = .tuple #[qv, .int .i64 qe] ∧ SlI w5 qv qs ∧ ((qe = 6 ∧ qs = [] ∧ ¬ (es.getD 0 (0, [])).1 < far) ∨ (qe = 0 ∧ qs = srt (es.getD 0 (0, [])).2 ∧ (es.getD 0 (0, [])).1 < far)) := by
    rcases hQ with ⟨h1, rfl⟩ | ⟨h1, v, rfl, h2⟩
    · exact ⟨_, _, [], rfl, Sl.nil _ _ _ _ _, .inl ⟨rfl, rfl, by omega⟩⟩
    · exact ⟨_, _, _, rfl, h2.sl, .inr ⟨rfl, rfl, h1⟩⟩
  clear hQ
  obtain ⟨Aq, cq, rfl⟩ := Sl.sl hqs
  (repeat (first | with_reducible refine W.seq ?_ | with_reducible refine Ops.nil ?_ | with_reducible refine W.region ?_ | refine z_p (kk := ?_) | refine z_a (kk := ?_) | refine z_y (kk := ?_) | refine z_n (kk := ?_) | refine z_u (kk := ?_) | with_reducible refine W.skip ?_ | with_reducible refine W.endb ?_ | with_reducible refine W.block ?_ | refine W.exit rfl ?_ | refine z_l (kk := ?_) | refine z_f (kk := ?_) | refine z_M (kk := ?_) | refine z_m (kk := ?_) | refine z_e (kk := ?_) | refine z_E (kk := ?_) | refine z_d (kk := ?_) | refine z_I (kk := fun _ => ?_) | refine z_J (kk := fun _ => ?_) | refine z_K (kk := fun _ => ?_) | refine z_L (kk := fun _ => ?_) | refine z_T (kk := ?_) | refine z_F (kk := ?_) | refine z_k (kk := fun _ _ _ _ _ => ?_) | refine z_w (kk := fun _ _ => ?_) | refine z_s (kk := fun _ _ _ _ => ?_) | refine z_g (kk := ?_) | refine z_h (kk := ?_)))
  refine Ops.call rfl rfl rfl rfl rfl (proof_c (b := 0 - (b' - 100)) hU5 (by omega)) (fun r w6 hR => ?_)
  obtain ⟨hb6, hP⟩ := hR
  have hb06 := Below.via hb05 hb6
  have hT6 := hT5.below hb6
  have hU6 := hU5.below hb6
  unfold ProvedR at hP
  rw [if_pos (by omega), hg'] at hP
  obtain ⟨fs, hF, hGF, hP⟩ := hP
  obtain ⟨pv', pe, qs', rfl, hps, hpcase⟩ : ∃ pv pe ps, r = .tuple #[pv, .int .i64 pe] ∧ SlI w6 pv ps ∧ ((pe = 6 ∧ ps = [] ∧ ¬ (fs.getD 0 (0, [])).1 < far) ∨ (pe = 0 ∧ ps = srt (fs.getD 0 (0, [])).2 ∧ (fs.getD 0 (0, [])).1 < far)) := by
    rcases hP with ⟨h1, rfl⟩ | ⟨h1, v, rfl, h2⟩
    · exact ⟨_, _, [], rfl, Sl.nil _ _ _ _ _, .inl ⟨rfl, rfl, by omega⟩⟩
    · exact ⟨_, _, _, rfl, h2.sl, .inr ⟨rfl, rfl, h1⟩⟩
  clear hP
  obtain ⟨Ap, cp, rfl⟩ := Sl.sl hps
  have hbd := (Go.Proofs.Ytdiljpnfochndaa.HP.need_small hTF hE (fun i _ => .inr (refuteF_3 i)) 0 (by omega)).2.hi
  obtain ⟨hn1', hn2⟩ := Go.Proofs.Ytdiljpnfochndaa.HP.turn_need hTF hTF' hE hF (fun i hi hl => by
    unfold proofF refuteF
    rw [Go.Proofs.Ytdiljpnfochndaa.HP.turn_wor l i hi]
    congr 1
    rw [decide_eq_decide]
    omega) hbd
  have hq1 := (refute_facts hTF hE hvs).1
  have hvb := Go.Proofs.Ytdiljpnfochndaa.HP.wor_bd hTF hvs
  have hlens : pe = qe ∧ qs.length = qs'.length ∧ (qe = 0 ∨ qe = 6) ∧ (qe = 0 ↔ vs.getD 0 0 ≤ b' - 100) := by
    rcases hqcase with ⟨e1, e2, e3⟩ | ⟨e1, e2, e3⟩
    · rcases hpcase with ⟨d1, d2, d3⟩ | ⟨d1, d2, d3⟩
      · subst e1 e2 d1 d2
        exact ⟨rfl, rfl, .inr rfl, by rw [← hq1]; exact ⟨fun h => by omega, fun h => absurd h e3⟩⟩
      · rw [hn1'] at d3; exact absurd d3 e3
    · rcases hpcase with ⟨d1, d2, d3⟩ | ⟨d1, d2, d3⟩
      · rw [hn1'] at d3; exact absurd e3 d3
      · have := hn2 e3
        subst e1 e2 d1 d2
        refine ⟨rfl, ?_, .inl rfl, by rw [← hq1]; exact ⟨fun _ => e3, fun _ => rfl⟩⟩
        rw [List.length_mergeSort, List.length_mergeSort]
        exact this.symm
  obtain ⟨g1, g2, g3, g4⟩ := hlens
  subst g1
  (repeat (first | with_reducible refine W.seq ?_ | with_reducible refine Ops.nil ?_ | with_reducible refine W.region ?_ | refine z_p (kk := ?_) | refine z_a (kk := ?_) | refine z_y (kk := ?_) | refine z_n (kk := ?_) | refine z_u (kk := ?_) | with_reducible refine W.skip ?_ | with_reducible refine W.endb ?_ | with_reducible refine W.block ?_ | refine W.exit rfl ?_ | refine z_l (kk := ?_) | refine z_f (kk := ?_) | refine z_M (kk := ?_) | refine z_m (kk := ?_) | refine z_e (kk := ?_) | refine z_E (kk := ?_) | refine z_d (kk := ?_) | refine z_I (kk := fun _ => ?_) | refine z_J (kk := fun _ => ?_) | refine z_K (kk := fun _ => ?_) | refine z_L (kk := fun _ => ?_) | refine z_T (kk := ?_) | refine z_F (kk := ?_) | refine z_k (kk := fun _ _ _ _ _ => ?_) | refine z_w (kk := fun _ _ => ?_) | refine z_s (kk := fun _ _ _ _ => ?_) | refine z_g (kk := ?_) | refine z_h (kk := ?_)))
  refine Ops.call rfl rfl rfl rfl rfl (search_c hT6 (by omega)) (fun r w7 hR => ?_)
  obtain ⟨hb7, hS⟩ := hR
  have hb07 := Below.via hb06 hb7
  have hU7 := hU6.below hb7
  unfold SearchR at hS
  rw [hg] at hS
  obtain ⟨sv, rfl, hS⟩ := hS
  have hsl7 := hS.sl
  obtain ⟨As, cs, rfl⟩ := Sl.sl hsl7
  (repeat (first | with_reducible refine W.seq ?_ | with_reducible refine Ops.nil ?_ | with_reducible refine W.region ?_ | refine z_p (kk := ?_) | refine z_a (kk := ?_) | refine z_y (kk := ?_) | refine z_n (kk := ?_) | refine z_u (kk := ?_) | with_reducible refine W.skip ?_ | with_reducible refine W.endb ?_ | with_reducible refine W.block ?_ | refine W.exit rfl ?_ | refine z_l (kk := ?_) | refine z_f (kk := ?_) | refine z_M (kk := ?_) | refine z_m (kk := ?_) | refine z_e (kk := ?_) | refine z_E (kk := ?_) | refine z_d (kk := ?_) | refine z_I (kk := fun _ => ?_) | refine z_J (kk := fun _ => ?_) | refine z_K (kk := fun _ => ?_) | refine z_L (kk := fun _ => ?_) | refine z_T (kk := ?_) | refine z_F (kk := ?_) | refine z_k (kk := fun _ _ _ _ _ => ?_) | refine z_w (kk := fun _ _ => ?_) | refine z_s (kk := fun _ _ _ _ => ?_) | refine z_g (kk := ?_) | refine z_h (kk := ?_)))
  refine Ops.call rfl rfl rfl rfl rfl (search_c hU7 (by omega)) (fun r w8 hR => ?_)
  obtain ⟨hb8, hS'⟩ := hR
  have hb08 := Below.via hb07 hb8
  unfold SearchR at hS'
  rw [hg'] at hS'
  obtain ⟨sv', rfl, hS'⟩ := hS'
  have hsl8 := hS'.sl
  obtain ⟨As', cs', rfl⟩ := Sl.sl hsl8
  have hse := Go.Proofs.Ytdiljpnfochndaa.HP.turn_search hTF hTF'
  rw [hse]
  generalize vs.getD 0 0 = v at *
  generalize (srS l dep l.length 0 (-far) far).2.length = q at *
  have hv1 : -v = 0 - v := by omega
  rw [hv1]
  have hdd : (pe == 0) = decide (v ≤ b' - 100) := by rw [show (pe == 0) = decide (pe = 0) from rfl, decide_eq_decide]; exact g4
  (repeat (first | with_reducible refine W.seq ?_ | with_reducible refine Ops.nil ?_ | with_reducible refine W.region ?_ | refine z_p (kk := ?_) | refine z_a (kk := ?_) | refine z_y (kk := ?_) | refine z_n (kk := ?_) | refine z_u (kk := ?_) | with_reducible refine W.skip ?_ | with_reducible refine W.endb ?_ | with_reducible refine W.block ?_ | refine W.exit rfl ?_ | refine z_l (kk := ?_) | refine z_f (kk := ?_) | refine z_M (kk := ?_) | refine z_m (kk := ?_) | refine z_e (kk := ?_) | refine z_E (kk := ?_) | refine z_d (kk := ?_) | refine z_I (kk := fun _ => ?_) | refine z_J (kk := fun _ => ?_) | refine z_K (kk := fun _ => ?_) | refine z_L (kk := fun _ => ?_) | refine z_T (kk := ?_) | refine z_F (kk := ?_) | refine z_k (kk := fun _ _ _ _ _ => ?_) | refine z_w (kk := fun _ _ => ?_) | refine z_s (kk := fun _ _ _ _ => ?_) | refine z_g (kk := ?_) | refine z_h (kk := ?_)))
  rw [hdd]
  (repeat (first | with_reducible refine W.seq ?_ | with_reducible refine Ops.nil ?_ | with_reducible refine W.region ?_ | refine z_p (kk := ?_) | refine z_a (kk := ?_) | refine z_y (kk := ?_) | refine z_n (kk := ?_) | refine z_u (kk := ?_) | with_reducible refine W.skip ?_ | with_reducible refine W.endb ?_ | with_reducible refine W.block ?_ | refine W.exit rfl ?_ | refine z_l (kk := ?_) | refine z_f (kk := ?_) | refine z_M (kk := ?_) | refine z_m (kk := ?_) | refine z_e (kk := ?_) | refine z_E (kk := ?_) | refine z_d (kk := ?_) | refine z_I (kk := fun _ => ?_) | refine z_J (kk := fun _ => ?_) | refine z_K (kk := fun _ => ?_) | refine z_L (kk := fun _ => ?_) | refine z_T (kk := ?_) | refine z_F (kk := ?_) | refine z_k (kk := fun _ _ _ _ _ => ?_) | refine z_w (kk := fun _ _ => ?_) | refine z_s (kk := fun _ _ _ _ => ?_) | refine z_g (kk := ?_) | refine z_h (kk := ?_)))
  refine Ops.call rfl rfl rfl rfl rfl (awake_c _) (fun r w9 hR => ?_)
  obtain ⟨rfl, hb9⟩ := hR
  (repeat (first | with_reducible refine W.seq ?_ | with_reducible refine Ops.nil ?_ | with_reducible refine W.region ?_ | refine z_p (kk := ?_) | refine z_a (kk := ?_) | refine z_y (kk := ?_) | refine z_n (kk := ?_) | refine z_u (kk := ?_) | with_reducible refine W.skip ?_ | with_reducible refine W.endb ?_ | with_reducible refine W.block ?_ | refine W.exit rfl ?_ | refine z_l (kk := ?_) | refine z_f (kk := ?_) | refine z_M (kk := ?_) | refine z_m (kk := ?_) | refine z_e (kk := ?_) | refine z_E (kk := ?_) | refine z_d (kk := ?_) | refine z_I (kk := fun _ => ?_) | refine z_J (kk := fun _ => ?_) | refine z_K (kk := fun _ => ?_) | refine z_L (kk := fun _ => ?_) | refine z_T (kk := ?_) | refine z_F (kk := ?_) | refine z_k (kk := fun _ _ _ _ _ => ?_) | refine z_w (kk := fun _ _ => ?_) | refine z_s (kk := fun _ _ _ _ => ?_) | refine z_g (kk := ?_) | refine z_h (kk := ?_)))
  exact W.fret rfl ⟨rfl, Below.via hb08 hb9⟩
end Go.Proofs.Ytdiljpnfochndaa
namespace Go.Proofs.Ytdiljpnfochndaa
open Go Go.RowKit Go.Proofs.Ytdiljpnfochndaa.VW
open Go.Proofs.Ytdiljpnfochndaa.HP (tameM tame_TK modM modM_bd Nd kid wor leafB rd gameOf gameOf_TF TF TK ValP far NeedP GoodE)
attribute [local irreducible] W Ops OrdA VW.Ord OrdX
/-- What decides has as many leaves as a proof. -/
theorem proof_least {l : List Nd} {dep us S : List Int} {b : Int} {es : List (Int × List Int)} {wf : Int → Int} (hT : TF l dep) (hE : NeedP l dep true (proofF l b) es) (hu : ValP l dep wf us)
    (hw : ∀ i : Nat, i < l.length → leafB l i = true → b ≤ wf i → (i : Int) ∈ S ∧ wf i = wor l i) (h : b ≤ us.getD 0 0) : (es.getD 0 (0, [])).1 ≤ S.length := by
  have hn := hT.n1
  obtain ⟨ys, h1, h2, h3⟩ := Go.Proofs.Ytdiljpnfochndaa.HP.proof_min (S := S) hT hE hu (fun i hi hl hb => by
    obtain ⟨q1, q2⟩ := hw i hi hl hb
    refine ⟨q1, ?_⟩
    rw [q2] at hb
    unfold proofF costV
    simp [hb]) 0 (by omega) h
  have := Go.Proofs.Ytdiljpnfochndaa.HP.nodup_sub ys S h1.nd h2
  omega
theorem worst_in {l : List Nd} {S : List Int} {b : Int} (hb : -1000 ≤ b) (i : Nat) (h : b ≤ worstF l S i) : (i : Int) ∈ S ∧ worstF l S i = wor l i := by
  unfold worstF at h ⊢
  by_cases hc : S.contains (i : Int) = true
  · rw [if_pos hc]; exact ⟨by simpa using hc, rfl⟩
  · rw [if_neg hc] at h; simp only [far] at h; omega
theorem tup2 {r : Value} {l : List Nd} {mx : Bool} {lf : Int → Int} {b : Int} {w w' : World} {dep : List Int} (hbd : -1000 ≤ b ∧ b ≤ 1000) (hg : gameOf l = some dep) (h : ProvedR l mx lf b w w' r) : ∃ es, NeedP l dep mx lf es ∧ GoodE l 0 (es.getD 0 (0, [])).2 ∧
    ((es.getD 0 (0, [])).1 < far → ∃ A c, r = .tuple #[.slice A (srt (es.getD 0 (0, [])).2).length c, .int .i64 0] ∧ SlI w' (.slice A (srt (es.getD 0 (0, [])).2).length c) (srt (es.getD 0 (0, [])).2)) := by
  unfold ProvedR at h
  rw [if_pos hbd, hg] at h
  obtain ⟨es, hE, hG, h⟩ := h
  refine ⟨es, hE, hG, fun hlt => ?_⟩
  rcases h with ⟨h1, _⟩ | ⟨_, v, rfl, h2⟩
  · omega
  · obtain ⟨A, c, rfl⟩ := Sl.sl h2.sl
    exact ⟨A, c, rfl, h2.sl⟩
set_option maxHeartbeats 4000000 in
theorem provedLaw_c {w : World} {pv wv ov : Value} {ps ws os : List Int} {b : Int} (hp : SlI w pv ps) (hw : SlI w wv ws) (ho : SlI w ov os) :
    Calls Try.prog 8 #[pv, wv, ov, .int .i64 b] w (Ret fun r w' => r = .bool true ∧ Below w.heap.size w w') := by
  refine calls_W (vs := [_, _, _, _]) Try.func8 rfl (by kernel_rfl) rfl ?_
  (repeat (first | with_reducible refine W.seq ?_ | with_reducible refine Ops.nil ?_ | with_reducible refine W.region ?_ | refine z_p (kk := ?_) | refine z_a (kk := ?_) | refine z_y (kk := ?_) | refine z_n (kk := ?_) | refine z_u (kk := ?_) | with_reducible refine W.skip ?_ | with_reducible refine W.endb ?_ | with_reducible refine W.block ?_ | refine W.exit rfl ?_ | refine z_l (kk := ?_) | refine z_f (kk := ?_) | refine z_M (kk := ?_) | refine z_m (kk := ?_) | refine z_e (kk := ?_) | refine z_E (kk := ?_) | refine z_d (kk := ?_) | refine z_I (kk := fun _ => ?_) | refine z_J (kk := fun _ => ?_) | refine z_K (kk := fun _ => ?_) | refine z_L (kk := fun _ => ?_) | refine z_T (kk := ?_) | refine z_F (kk := ?_) | refine z_k (kk := fun _ _ _ _ _ => ?_) | refine z_w (kk := fun _ _ => ?_) | refine z_s (kk := fun _ _ _ _ => ?_) | refine z_g (kk := ?_) | refine z_h (kk := ?_)))
  refine Ops.call rfl rfl rfl rfl rfl (tame_c (most := 60) hp hw (by decide) (by decide)) (fun tv w1 hR => ?_)
  obtain ⟨hT1, hb1⟩ := hR
  have hTK := tame_TK (ps := ps) (ws := ws) (most := 60) (by decide) (by decide)
  generalize tameM ps ws 60 = l at *
  obtain ⟨dep, hg⟩ := hTK.game
  have hTF := gameOf_TF hg
  have hn1 := hTF.n1
  have hn60 := hTF.n60
  have hmb := modM_bd b (n := 50) (by omega)
  obtain ⟨At, ct, rfl⟩ := hT1.sl
  (repeat (first | with_reducible refine W.seq ?_ | with_reducible refine Ops.nil ?_ | with_reducible refine W.region ?_ | refine z_p (kk := ?_) | refine z_a (kk := ?_) | refine z_y (kk := ?_) | refine z_n (kk := ?_) | refine z_u (kk := ?_) | with_reducible refine W.skip ?_ | with_reducible refine W.endb ?_ | with_reducible refine W.block ?_ | refine W.exit rfl ?_ | refine z_l (kk := ?_) | refine z_f (kk := ?_) | refine z_M (kk := ?_) | refine z_m (kk := ?_) | refine z_e (kk := ?_) | refine z_E (kk := ?_) | refine z_d (kk := ?_) | refine z_I (kk := fun _ => ?_) | refine z_J (kk := fun _ => ?_) | refine z_K (kk := fun _ => ?_) | refine z_L (kk := fun _ => ?_) | refine z_T (kk := ?_) | refine z_F (kk := ?_) | refine z_k (kk := fun _ _ _ _ _ => ?_) | refine z_w (kk := fun _ _ => ?_) | refine z_s (kk := fun _ _ _ _ => ?_) | refine z_g (kk := ?_) | refine z_h (kk := ?_)))
  refine Ops.call rfl rfl rfl rfl rfl (value_c hT1 (by omega)) (fun r w2 hR => ?_)
  obtain ⟨hb2, hR⟩ := hR
  rw [hg] at hR
  obtain ⟨vs, hvs, rfl⟩ := hR
  have hvb := Go.Proofs.Ytdiljpnfochndaa.HP.wor_bd hTF hvs
  have hb02 := Below.via hb1 hb2
  have hT2 := hT1.below hb2
  (repeat (first | with_reducible refine W.seq ?_ | with_reducible refine Ops.nil ?_ | with_reducible refine W.region ?_ | refine z_p (kk := ?_) | refine z_a (kk := ?_) | refine z_y (kk := ?_) | refine z_n (kk := ?_) | refine z_u (kk := ?_) | with_reducible refine W.skip ?_ | with_reducible refine W.endb ?_ | with_reducible refine W.block ?_ | refine W.exit rfl ?_ | refine z_l (kk := ?_) | refine z_f (kk := ?_) | refine z_M (kk := ?_) | refine z_m (kk := ?_) | refine z_e (kk := ?_) | refine z_E (kk := ?_) | refine z_d (kk := ?_) | refine z_I (kk := fun _ => ?_) | refine z_J (kk := fun _ => ?_) | refine z_K (kk := fun _ => ?_) | refine z_L (kk := fun _ => ?_) | refine z_T (kk := ?_) | refine z_F (kk := ?_) | refine z_k (kk := fun _ _ _ _ _ => ?_) | refine z_w (kk := fun _ _ => ?_) | refine z_s (kk := fun _ _ _ _ => ?_) | refine z_g (kk := ?_) | refine z_h (kk := ?_)))
  refine Ops.call rfl rfl rfl rfl rfl (proof_c (b := vs.getD 0 0) hT2 (by omega)) (fun r w3 hR => ?_)
  obtain ⟨hb3, hP⟩ := hR
  have hb03 := Below.via hb02 hb3
  have hT3 := hT2.below hb3
  obtain ⟨es, hE, hGE, hP⟩ := tup2 (by omega) hg hP
  obtain ⟨hp1, hp2⟩ := proof_facts hTF hE hvs
  have hlt := hp1.2 (Int.le_refl _)
  obtain ⟨Ap, cp, rfl, hps⟩ := hP hlt
  obtain ⟨hp3, hp4, _⟩ := hp2 hlt
  (repeat (first | with_reducible refine W.seq ?_ | with_reducible refine Ops.nil ?_ | with_reducible refine W.region ?_ | refine z_p (kk := ?_) | refine z_a (kk := ?_) | refine z_y (kk := ?_) | refine z_n (kk := ?_) | refine z_u (kk := ?_) | with_reducible refine W.skip ?_ | with_reducible refine W.endb ?_ | with_reducible refine W.block ?_ | refine W.exit rfl ?_ | refine z_l (kk := ?_) | refine z_f (kk := ?_) | refine z_M (kk := ?_) | refine z_m (kk := ?_) | refine z_e (kk := ?_) | refine z_E (kk := ?_) | refine z_d (kk := ?_) | refine z_I (kk := fun _ => ?_) | refine z_J (kk := fun _ => ?_) | refine z_K (kk := fun _ => ?_) | refine z_L (kk := fun _ => ?_) | refine z_T (kk := ?_) | refine z_F (kk := ?_) | refine z_k (kk := fun _ _ _ _ _ => ?_) | refine z_w (kk := fun _ _ => ?_) | refine z_s (kk := fun _ _ _ _ => ?_) | refine z_g (kk := ?_) | refine z_h (kk := ?_)))
  refine Ops.call rfl rfl rfl rfl rfl (refute_c (b := vs.getD 0 0) hT3 (by omega)) (fun r w4 hR => ?_)
  obtain ⟨hb4, hQ⟩ := hR
  have hb04 := Below.via hb03 hb4
  have hT4 := hT3.below hb4
  obtain ⟨fs, hF, hGF, hQ⟩ := tup2 (by omega) hg hQ
  obtain ⟨hq1, hq2⟩ := refute_facts hTF hF hvs
  have hltq := hq1.2 (Int.le_refl _)
  obtain ⟨Aq, cq, rfl, hqs⟩ := hQ hltq
  obtain ⟨hq3, hq4, _⟩ := hq2 hltq
  (repeat (first | with_reducible refine W.seq ?_ | with_reducible refine Ops.nil ?_ | with_reducible refine W.region ?_ | refine z_p (kk := ?_) | refine z_a (kk := ?_) | refine z_y (kk := ?_) | refine z_n (kk := ?_) | refine z_u (kk := ?_) | with_reducible refine W.skip ?_ | with_reducible refine W.endb ?_ | with_reducible refine W.block ?_ | refine W.exit rfl ?_ | refine z_l (kk := ?_) | refine z_f (kk := ?_) | refine z_M (kk := ?_) | refine z_m (kk := ?_) | refine z_e (kk := ?_) | refine z_E (kk := ?_) | refine z_d (kk := ?_) | refine z_I (kk := fun _ => ?_) | refine z_J (kk := fun _ => ?_) | refine z_K (kk := fun _ => ?_) | refine z_L (kk := fun _ => ?_) | refine z_T (kk := ?_) | refine z_F (kk := ?_) | refine z_k (kk := fun _ _ _ _ _ => ?_) | refine z_w (kk := fun _ _ => ?_) | refine z_s (kk := fun _ _ _ _ => ?_) | refine z_g (kk := ?_) | refine z_h (kk := ?_)))
  refine Ops.callS rfl rfl rfl rfl rfl (mod_c _ _ _ (by decide) (by decide)) ?_
  generalize modM b 50 = m at *
  (repeat (first | with_reducible refine W.seq ?_ | with_reducible refine Ops.nil ?_ | with_reducible refine W.region ?_ | refine z_p (kk := ?_) | refine z_a (kk := ?_) | refine z_y (kk := ?_) | refine z_n (kk := ?_) | refine z_u (kk := ?_) | with_reducible refine W.skip ?_ | with_reducible refine W.endb ?_ | with_reducible refine W.block ?_ | refine W.exit rfl ?_ | refine z_l (kk := ?_) | refine z_f (kk := ?_) | refine z_M (kk := ?_) | refine z_m (kk := ?_) | refine z_e (kk := ?_) | refine z_E (kk := ?_) | refine z_d (kk := ?_) | refine z_I (kk := fun _ => ?_) | refine z_J (kk := fun _ => ?_) | refine z_K (kk := fun _ => ?_) | refine z_L (kk := fun _ => ?_) | refine z_T (kk := ?_) | refine z_F (kk := ?_) | refine z_k (kk := fun _ _ _ _ _ => ?_) | refine z_w (kk := fun _ _ => ?_) | refine z_s (kk := fun _ _ _ _ => ?_) | refine z_g (kk := ?_) | refine z_h (kk := ?_)))
  refine Ops.call rfl rfl rfl rfl rfl (proof_c (b := vs.getD 0 0 - m) hT4 (by omega)) (fun r w5 hR => ?_)
  obtain ⟨hb5, hU⟩ := hR
  have hb05 := Below.via hb04 hb5
  have hT5 := hT4.below hb5
  obtain ⟨gs, hG, hGG, hU⟩ := tup2 (by omega) hg hU
  obtain ⟨hu1, hu2⟩ := proof_facts hTF hG hvs
  have hltu := hu1.2 (by omega)
  obtain ⟨Au, cu, rfl, hus⟩ := hU hltu
  obtain ⟨hu3, hu4, _⟩ := hu2 hltu
  have hlp : (srt (es.getD 0 (0, [])).2).length = (es.getD 0 (0, [])).2.length := List.length_mergeSort _
  have hlu : (srt (gs.getD 0 (0, [])).2).length = (gs.getD 0 (0, [])).2.length := List.length_mergeSort _
  have hlsp : Listed l (srt (es.getD 0 (0, [])).2) := srt_listed hGE
  have hlsq : Listed l (srt (fs.getD 0 (0, [])).2) := srt_listed hGF
  have hinp : ∀ i : Nat, i < l.length → leafB l i = true → (i : Int) ∈ (es.getD 0 (0, [])).2 → worstF l (srt (es.getD 0 (0, [])).2) i = wor l i := fun i _ _ hi => by
    unfold worstF
    rw [if_pos (by simpa using srt_mem.2 hi)]
  have hule : (gs.getD 0 (0, [])).2.length ≤ (es.getD 0 (0, [])).2.length := by
    obtain ⟨us, hus⟩ := Go.Proofs.Ytdiljpnfochndaa.HP.val_ex hTF (worstF l (srt (es.getD 0 (0, [])).2))
    have h1 := hp4 _ us hus hinp
    have h2 := proof_least (S := srt (es.getD 0 (0, [])).2) hTF hG hus (fun i _ _ h => worst_in (by omega) i h) (by omega)
    rw [hlp] at h2
    omega
  have hps5 := Sl.below (Sl.below hps hb4) hb5
  have hqs5 := Sl.below hqs hb5
  generalize hP_ : srt (es.getD 0 (0, [])).2 = PL at *
  generalize hQ_ : srt (fs.getD 0 (0, [])).2 = QL at *
  generalize hU_ : srt (gs.getD 0 (0, [])).2 = UL at *
  (repeat (first | with_reducible refine W.seq ?_ | with_reducible refine Ops.nil ?_ | with_reducible refine W.region ?_ | refine z_p (kk := ?_) | refine z_a (kk := ?_) | refine z_y (kk := ?_) | refine z_n (kk := ?_) | refine z_u (kk := ?_) | with_reducible refine W.skip ?_ | with_reducible refine W.endb ?_ | with_reducible refine W.block ?_ | refine W.exit rfl ?_ | refine z_l (kk := ?_) | refine z_f (kk := ?_) | refine z_M (kk := ?_) | refine z_m (kk := ?_) | refine z_e (kk := ?_) | refine z_E (kk := ?_) | refine z_d (kk := ?_) | refine z_I (kk := fun _ => ?_) | refine z_J (kk := fun _ => ?_) | refine z_K (kk := fun _ => ?_) | refine z_L (kk := fun _ => ?_) | refine z_T (kk := ?_) | refine z_F (kk := ?_) | refine z_k (kk := fun _ _ _ _ _ => ?_) | refine z_w (kk := fun _ _ => ?_) | refine z_s (kk := fun _ _ _ _ => ?_) | refine z_g (kk := ?_) | refine z_h (kk := ?_)))
  refine Ops.call rfl rfl rfl rfl rfl (listed_c hT5 hn60 hps5) (fun r w6 hR => ?_)
  obtain ⟨rfl, hb6⟩ := hR
  have hb06 := Below.via hb05 hb6
  have hT6 := hT5.below hb6
  have hqs6 := Sl.below hqs5 hb6
  have hps6 := Sl.below hps5 hb6
  rw [decide_eq_true hlsp]
  (repeat (first | with_reducible refine W.seq ?_ | with_reducible refine Ops.nil ?_ | with_reducible refine W.region ?_ | refine z_p (kk := ?_) | refine z_a (kk := ?_) | refine z_y (kk := ?_) | refine z_n (kk := ?_) | refine z_u (kk := ?_) | with_reducible refine W.skip ?_ | with_reducible refine W.endb ?_ | with_reducible refine W.block ?_ | refine W.exit rfl ?_ | refine z_l (kk := ?_) | refine z_f (kk := ?_) | refine z_M (kk := ?_) | refine z_m (kk := ?_) | refine z_e (kk := ?_) | refine z_E (kk := ?_) | refine z_d (kk := ?_) | refine z_I (kk := fun _ => ?_) | refine z_J (kk := fun _ => ?_) | refine z_K (kk := fun _ => ?_) | refine z_L (kk := fun _ => ?_) | refine z_T (kk := ?_) | refine z_F (kk := ?_) | refine z_k (kk := fun _ _ _ _ _ => ?_) | refine z_w (kk := fun _ _ => ?_) | refine z_s (kk := fun _ _ _ _ => ?_) | refine z_g (kk := ?_) | refine z_h (kk := ?_)))
  refine Ops.call rfl rfl rfl rfl rfl (listed_c hT6 hn60 hqs6) (fun r w7 hR => ?_)
  obtain ⟨rfl, hb7⟩ := hR
  have hb07 := Below.via hb06 hb7
  have hT7 := hT6.below hb7
  have hqs7 := Sl.below hqs6 hb7
  have hps7 := Sl.below hps6 hb7
  rw [decide_eq_true hlsq]
  (repeat (first | with_reducible refine W.seq ?_ | with_reducible refine Ops.nil ?_ | with_reducible refine W.region ?_ | refine z_p (kk := ?_) | refine z_a (kk := ?_) | refine z_y (kk := ?_) | refine z_n (kk := ?_) | refine z_u (kk := ?_) | with_reducible refine W.skip ?_ | with_reducible refine W.endb ?_ | with_reducible refine W.block ?_ | refine W.exit rfl ?_ | refine z_l (kk := ?_) | refine z_f (kk := ?_) | refine z_M (kk := ?_) | refine z_m (kk := ?_) | refine z_e (kk := ?_) | refine z_E (kk := ?_) | refine z_d (kk := ?_) | refine z_I (kk := fun _ => ?_) | refine z_J (kk := fun _ => ?_) | refine z_K (kk := fun _ => ?_) | refine z_L (kk := fun _ => ?_) | refine z_T (kk := ?_) | refine z_F (kk := ?_) | refine z_k (kk := fun _ _ _ _ _ => ?_) | refine z_w (kk := fun _ _ => ?_) | refine z_s (kk := fun _ _ _ _ => ?_) | refine z_g (kk := ?_) | refine z_h (kk := ?_)))
  refine W.condF rfl (by first | rfl | assumption | (simp only [bnf] <;> omega) | (simp only [*, bnf]; done) | fail) ?_
  (repeat (first | with_reducible refine W.seq ?_ | with_reducible refine Ops.nil ?_ | with_reducible refine W.region ?_ | refine z_p (kk := ?_) | refine z_a (kk := ?_) | refine z_y (kk := ?_) | refine z_n (kk := ?_) | refine z_u (kk := ?_) | with_reducible refine W.skip ?_ | with_reducible refine W.endb ?_ | with_reducible refine W.block ?_ | refine W.exit rfl ?_ | refine z_l (kk := ?_) | refine z_f (kk := ?_) | refine z_M (kk := ?_) | refine z_m (kk := ?_) | refine z_e (kk := ?_) | refine z_E (kk := ?_) | refine z_d (kk := ?_) | refine z_I (kk := fun _ => ?_) | refine z_J (kk := fun _ => ?_) | refine z_K (kk := fun _ => ?_) | refine z_L (kk := fun _ => ?_) | refine z_T (kk := ?_) | refine z_F (kk := ?_) | refine z_k (kk := fun _ _ _ _ _ => ?_) | refine z_w (kk := fun _ _ => ?_) | refine z_s (kk := fun _ _ _ _ => ?_) | refine z_g (kk := ?_) | refine z_h (kk := ?_)))
  refine Ops.call rfl rfl rfl rfl rfl (decides_c (b := vs.getD 0 0) hT7 (by omega) hps7) (fun r w8 hR => ?_)
  obtain ⟨hb8, hD⟩ := hR
  have hb08 := Below.via hb07 hb8
  have hT8 := hT7.below hb8
  have hqs8 := Sl.below hqs7 hb8
  have hps8 := Sl.below hps7 hb8
  unfold DecR at hD
  rw [if_pos ⟨hlsp, by omega⟩, hg] at hD
  obtain ⟨ds, hds, rfl⟩ := hD
  have hd1 : vs.getD 0 0 ≤ ds.getD 0 0 := hp4 _ ds hds hinp
  rw [decide_eq_true hd1]
  (repeat (first | with_reducible refine W.seq ?_ | with_reducible refine Ops.nil ?_ | with_reducible refine W.region ?_ | refine z_p (kk := ?_) | refine z_a (kk := ?_) | refine z_y (kk := ?_) | refine z_n (kk := ?_) | refine z_u (kk := ?_) | with_reducible refine W.skip ?_ | with_reducible refine W.endb ?_ | with_reducible refine W.block ?_ | refine W.exit rfl ?_ | refine z_l (kk := ?_) | refine z_f (kk := ?_) | refine z_M (kk := ?_) | refine z_m (kk := ?_) | refine z_e (kk := ?_) | refine z_E (kk := ?_) | refine z_d (kk := ?_) | refine z_I (kk := fun _ => ?_) | refine z_J (kk := fun _ => ?_) | refine z_K (kk := fun _ => ?_) | refine z_L (kk := fun _ => ?_) | refine z_T (kk := ?_) | refine z_F (kk := ?_) | refine z_k (kk := fun _ _ _ _ _ => ?_) | refine z_w (kk := fun _ _ => ?_) | refine z_s (kk := fun _ _ _ _ => ?_) | refine z_g (kk := ?_) | refine z_h (kk := ?_)))
  refine Ops.call rfl rfl rfl rfl rfl (numbers_c (b := vs.getD 0 0 + 1) hT8 (by omega) hqs8) (fun r w9 hR => ?_)
  obtain ⟨hb9, hN⟩ := hR
  have hb09 := Below.via hb08 hb9
  have hT9 := hT8.below hb9
  have hqs9 := Sl.below hqs8 hb9
  have hps9 := Sl.below hps8 hb9
  unfold NumbersR at hN
  rw [if_pos ⟨hlsq, by omega⟩, hg] at hN
  obtain ⟨y, z, hy, hz, rfl⟩ := hN
  have hz0 : z = 0 := by
    obtain ⟨ns, hns, rfl⟩ := hz
    obtain ⟨us, hus⟩ := Go.Proofs.Ytdiljpnfochndaa.HP.val_ex hTF (restF l QL 1000000)
    have h1 := hq4 _ us hus (fun i _ _ hi => by rw [← hQ_]; exact restF_in hi)
    have h2 := (Go.Proofs.Ytdiljpnfochndaa.HP.zero_iffF (b := vs.getD 0 0) hTF hns hus (fun i _ => numF_3 _) (fun i hi _ => by
      unfold numF restF
      by_cases hc : QL.contains (i : Int) = true
      · rw [if_pos hc, if_pos hc]
        by_cases hw : vs.getD 0 0 + 1 ≤ wor l i
        · rw [decide_eq_true hw]; exact ⟨fun h => by simp [far] at h, fun h => by omega⟩
        · rw [decide_eq_false hw]; exact ⟨fun _ => by omega, fun _ => rfl⟩
      · rw [if_neg hc, if_neg hc]; exact ⟨fun h => by omega, fun h => by omega⟩) 0 (by omega)).2 h1
    rw [h2]; rfl
  subst hz0
  (repeat (first | with_reducible refine W.seq ?_ | with_reducible refine Ops.nil ?_ | with_reducible refine W.region ?_ | refine z_p (kk := ?_) | refine z_a (kk := ?_) | refine z_y (kk := ?_) | refine z_n (kk := ?_) | refine z_u (kk := ?_) | with_reducible refine W.skip ?_ | with_reducible refine W.endb ?_ | with_reducible refine W.block ?_ | refine W.exit rfl ?_ | refine z_l (kk := ?_) | refine z_f (kk := ?_) | refine z_M (kk := ?_) | refine z_m (kk := ?_) | refine z_e (kk := ?_) | refine z_E (kk := ?_) | refine z_d (kk := ?_) | refine z_I (kk := fun _ => ?_) | refine z_J (kk := fun _ => ?_) | refine z_K (kk := fun _ => ?_) | refine z_L (kk := fun _ => ?_) | refine z_T (kk := ?_) | refine z_F (kk := ?_) | refine z_k (kk := fun _ _ _ _ _ => ?_) | refine z_w (kk := fun _ _ => ?_) | refine z_s (kk := fun _ _ _ _ => ?_) | refine z_g (kk := ?_) | refine z_h (kk := ?_)))
  refine Ops.call rfl rfl rfl rfl rfl (some_c hT9 hn60 (Sl.below ho hb09)) (fun sv w10 hI => ?_)
  have hls : Listed l (pickL (someP l os) l.length) := pickL_listed fun i _ h => by simp only [someP, Bool.and_eq_true] at h; exact h.1.1
  generalize pickL (someP l os) l.length = S at *
  have hsl10 := hI.sl
  obtain ⟨As, cs, rfl⟩ := Sl.sl hsl10
  have hb010 := Below.via hb09 hI.bel
  have hT10 := hT9.below hI.bel
  have hqs10 := Sl.below hqs9 hI.bel
  have hps10 := Sl.below hps9 hI.bel
  (repeat (first | with_reducible refine W.seq ?_ | with_reducible refine Ops.nil ?_ | with_reducible refine W.region ?_ | refine z_p (kk := ?_) | refine z_a (kk := ?_) | refine z_y (kk := ?_) | refine z_n (kk := ?_) | refine z_u (kk := ?_) | with_reducible refine W.skip ?_ | with_reducible refine W.endb ?_ | with_reducible refine W.block ?_ | refine W.exit rfl ?_ | refine z_l (kk := ?_) | refine z_f (kk := ?_) | refine z_M (kk := ?_) | refine z_m (kk := ?_) | refine z_e (kk := ?_) | refine z_E (kk := ?_) | refine z_d (kk := ?_) | refine z_I (kk := fun _ => ?_) | refine z_J (kk := fun _ => ?_) | refine z_K (kk := fun _ => ?_) | refine z_L (kk := fun _ => ?_) | refine z_T (kk := ?_) | refine z_F (kk := ?_) | refine z_k (kk := fun _ _ _ _ _ => ?_) | refine z_w (kk := fun _ _ => ?_) | refine z_s (kk := fun _ _ _ _ => ?_) | refine z_g (kk := ?_) | refine z_h (kk := ?_)))
  refine Ops.call rfl rfl rfl rfl rfl (decides_c (b := vs.getD 0 0) hT10 (by omega) hsl10) (fun r w11 hR => ?_)
  obtain ⟨hb11, hD⟩ := hR
  have hb011 := Below.via hb010 hb11
  have hT11 := hT10.below hb11
  have hqs11 := Sl.below hqs10 hb11
  have hps11 := Sl.below hps10 hb11
  unfold DecR at hD
  rw [if_pos ⟨hls, by omega⟩, hg] at hD
  obtain ⟨ks, hks, rfl⟩ := hD
  have hk : vs.getD 0 0 ≤ ks.getD 0 0 → PL.length ≤ S.length := fun h => by
    have := proof_least (S := S) hTF hE hks (fun i _ _ h => worst_in (by omega) i h) h
    omega
  generalize ks.getD 0 0 = kv at *
  have hJ : ∃ c : Bool, decide (vs.getD 0 0 ≤ kv) = c ∧ (c = true → PL.length ≤ S.length) := ⟨_, rfl, fun h => hk (by simpa using h)⟩
  obtain ⟨c, hc1, hc2⟩ := hJ
  rw [hc1]
  cases c with
  | false =>
    (repeat (first | with_reducible refine W.seq ?_ | with_reducible refine Ops.nil ?_ | with_reducible refine W.region ?_ | refine z_p (kk := ?_) | refine z_a (kk := ?_) | refine z_y (kk := ?_) | refine z_n (kk := ?_) | refine z_u (kk := ?_) | with_reducible refine W.skip ?_ | with_reducible refine W.endb ?_ | with_reducible refine W.block ?_ | refine W.exit rfl ?_ | refine z_l (kk := ?_) | refine z_f (kk := ?_) | refine z_M (kk := ?_) | refine z_m (kk := ?_) | refine z_e (kk := ?_) | refine z_E (kk := ?_) | refine z_d (kk := ?_) | refine z_I (kk := fun _ => ?_) | refine z_J (kk := fun _ => ?_) | refine z_K (kk := fun _ => ?_) | refine z_L (kk := fun _ => ?_) | refine z_T (kk := ?_) | refine z_F (kk := ?_) | refine z_k (kk := fun _ _ _ _ _ => ?_) | refine z_w (kk := fun _ _ => ?_) | refine z_s (kk := fun _ _ _ _ => ?_) | refine z_g (kk := ?_) | refine z_h (kk := ?_)))
    refine Ops.call rfl rfl rfl rfl rfl (most_c hT11 hTF hqs11 hlsq) (fun r w12 hR => ?_)
    obtain ⟨hb12, us, hus, rfl⟩ := hR
    have hm1 := hq4 _ us hus (fun i _ _ hi => by rw [← hQ_]; exact restF_in hi)
    have hm2 := Go.Proofs.Ytdiljpnfochndaa.HP.val_mono hTF hvs hus (fun i hi _ => by unfold restF; split; exact Int.le_refl _; have := (hTF.wor i hi).2.1; omega) 0 (by omega)
    (repeat (first | with_reducible refine W.seq ?_ | with_reducible refine Ops.nil ?_ | with_reducible refine W.region ?_ | refine z_p (kk := ?_) | refine z_a (kk := ?_) | refine z_y (kk := ?_) | refine z_n (kk := ?_) | refine z_u (kk := ?_) | with_reducible refine W.skip ?_ | with_reducible refine W.endb ?_ | with_reducible refine W.block ?_ | refine W.exit rfl ?_ | refine z_l (kk := ?_) | refine z_f (kk := ?_) | refine z_M (kk := ?_) | refine z_m (kk := ?_) | refine z_e (kk := ?_) | refine z_E (kk := ?_) | refine z_d (kk := ?_) | refine z_I (kk := fun _ => ?_) | refine z_J (kk := fun _ => ?_) | refine z_K (kk := fun _ => ?_) | refine z_L (kk := fun _ => ?_) | refine z_T (kk := ?_) | refine z_F (kk := ?_) | refine z_k (kk := fun _ _ _ _ _ => ?_) | refine z_w (kk := fun _ _ => ?_) | refine z_s (kk := fun _ _ _ _ => ?_) | refine z_g (kk := ?_) | refine z_h (kk := ?_)))
    refine Ops.call rfl rfl rfl rfl rfl (least_c (hT11.below hb12) hTF (Sl.below hps11 hb12) hlsp) (fun r w13 hR => ?_)
    obtain ⟨hb13, xs, hxs, rfl⟩ := hR
    have hx1 := hp4 _ xs hxs (fun i _ _ hi => by rw [← hP_]; exact restF_in hi)
    have hx2 := Go.Proofs.Ytdiljpnfochndaa.HP.val_mono hTF hxs hvs (fun i hi _ => by unfold restF; split; exact Int.le_refl _; have := (hTF.wor i hi).1; omega) 0 (by omega)
    have e1 : us.getD 0 0 = xs.getD 0 0 := by omega
    (repeat (first | with_reducible refine W.seq ?_ | with_reducible refine Ops.nil ?_ | with_reducible refine W.region ?_ | refine z_p (kk := ?_) | refine z_a (kk := ?_) | refine z_y (kk := ?_) | refine z_n (kk := ?_) | refine z_u (kk := ?_) | with_reducible refine W.skip ?_ | with_reducible refine W.endb ?_ | with_reducible refine W.block ?_ | refine W.exit rfl ?_ | refine z_l (kk := ?_) | refine z_f (kk := ?_) | refine z_M (kk := ?_) | refine z_m (kk := ?_) | refine z_e (kk := ?_) | refine z_E (kk := ?_) | refine z_d (kk := ?_) | refine z_I (kk := fun _ => ?_) | refine z_J (kk := fun _ => ?_) | refine z_K (kk := fun _ => ?_) | refine z_L (kk := fun _ => ?_) | refine z_T (kk := ?_) | refine z_F (kk := ?_) | refine z_k (kk := fun _ _ _ _ _ => ?_) | refine z_w (kk := fun _ _ => ?_) | refine z_s (kk := fun _ _ _ _ => ?_) | refine z_g (kk := ?_) | refine z_h (kk := ?_)))
    refine Ops.call rfl rfl rfl rfl rfl (awake_c _) (fun r w14 hR => ?_)
    obtain ⟨rfl, hb14⟩ := hR
    (repeat (first | with_reducible refine W.seq ?_ | with_reducible refine Ops.nil ?_ | with_reducible refine W.region ?_ | refine z_p (kk := ?_) | refine z_a (kk := ?_) | refine z_y (kk := ?_) | refine z_n (kk := ?_) | refine z_u (kk := ?_) | with_reducible refine W.skip ?_ | with_reducible refine W.endb ?_ | with_reducible refine W.block ?_ | refine W.exit rfl ?_ | refine z_l (kk := ?_) | refine z_f (kk := ?_) | refine z_M (kk := ?_) | refine z_m (kk := ?_) | refine z_e (kk := ?_) | refine z_E (kk := ?_) | refine z_d (kk := ?_) | refine z_I (kk := fun _ => ?_) | refine z_J (kk := fun _ => ?_) | refine z_K (kk := fun _ => ?_) | refine z_L (kk := fun _ => ?_) | refine z_T (kk := ?_) | refine z_F (kk := ?_) | refine z_k (kk := fun _ _ _ _ _ => ?_) | refine z_w (kk := fun _ _ => ?_) | refine z_s (kk := fun _ _ _ _ => ?_) | refine z_g (kk := ?_) | refine z_h (kk := ?_)))
    exact W.fret rfl ⟨rfl, Below.via (Below.via (Below.via hb011 hb12) hb13) hb14⟩
  | true =>
    have hc3 := hc2 rfl
    (repeat (first | with_reducible refine W.seq ?_ | with_reducible refine Ops.nil ?_ | with_reducible refine W.region ?_ | refine z_p (kk := ?_) | refine z_a (kk := ?_) | refine z_y (kk := ?_) | refine z_n (kk := ?_) | refine z_u (kk := ?_) | with_reducible refine W.skip ?_ | with_reducible refine W.endb ?_ | with_reducible refine W.block ?_ | refine W.exit rfl ?_ | refine z_l (kk := ?_) | refine z_f (kk := ?_) | refine z_M (kk := ?_) | refine z_m (kk := ?_) | refine z_e (kk := ?_) | refine z_E (kk := ?_) | refine z_d (kk := ?_) | refine z_I (kk := fun _ => ?_) | refine z_J (kk := fun _ => ?_) | refine z_K (kk := fun _ => ?_) | refine z_L (kk := fun _ => ?_) | refine z_T (kk := ?_) | refine z_F (kk := ?_) | refine z_k (kk := fun _ _ _ _ _ => ?_) | refine z_w (kk := fun _ _ => ?_) | refine z_s (kk := fun _ _ _ _ => ?_) | refine z_g (kk := ?_) | refine z_h (kk := ?_)))
    refine Ops.call rfl rfl rfl rfl rfl (most_c hT11 hTF hqs11 hlsq) (fun r w12 hR => ?_)
    obtain ⟨hb12, us, hus, rfl⟩ := hR
    have hm1 := hq4 _ us hus (fun i _ _ hi => by rw [← hQ_]; exact restF_in hi)
    have hm2 := Go.Proofs.Ytdiljpnfochndaa.HP.val_mono hTF hvs hus (fun i hi _ => by unfold restF; split; exact Int.le_refl _; have := (hTF.wor i hi).2.1; omega) 0 (by omega)
    (repeat (first | with_reducible refine W.seq ?_ | with_reducible refine Ops.nil ?_ | with_reducible refine W.region ?_ | refine z_p (kk := ?_) | refine z_a (kk := ?_) | refine z_y (kk := ?_) | refine z_n (kk := ?_) | refine z_u (kk := ?_) | with_reducible refine W.skip ?_ | with_reducible refine W.endb ?_ | with_reducible refine W.block ?_ | refine W.exit rfl ?_ | refine z_l (kk := ?_) | refine z_f (kk := ?_) | refine z_M (kk := ?_) | refine z_m (kk := ?_) | refine z_e (kk := ?_) | refine z_E (kk := ?_) | refine z_d (kk := ?_) | refine z_I (kk := fun _ => ?_) | refine z_J (kk := fun _ => ?_) | refine z_K (kk := fun _ => ?_) | refine z_L (kk := fun _ => ?_) | refine z_T (kk := ?_) | refine z_F (kk := ?_) | refine z_k (kk := fun _ _ _ _ _ => ?_) | refine z_w (kk := fun _ _ => ?_) | refine z_s (kk := fun _ _ _ _ => ?_) | refine z_g (kk := ?_) | refine z_h (kk := ?_)))
    refine Ops.call rfl rfl rfl rfl rfl (least_c (hT11.below hb12) hTF (Sl.below hps11 hb12) hlsp) (fun r w13 hR => ?_)
    obtain ⟨hb13, xs, hxs, rfl⟩ := hR
    have hx1 := hp4 _ xs hxs (fun i _ _ hi => by rw [← hP_]; exact restF_in hi)
    have hx2 := Go.Proofs.Ytdiljpnfochndaa.HP.val_mono hTF hxs hvs (fun i hi _ => by unfold restF; split; exact Int.le_refl _; have := (hTF.wor i hi).1; omega) 0 (by omega)
    have e1 : us.getD 0 0 = xs.getD 0 0 := by omega
    (repeat (first | with_reducible refine W.seq ?_ | with_reducible refine Ops.nil ?_ | with_reducible refine W.region ?_ | refine z_p (kk := ?_) | refine z_a (kk := ?_) | refine z_y (kk := ?_) | refine z_n (kk := ?_) | refine z_u (kk := ?_) | with_reducible refine W.skip ?_ | with_reducible refine W.endb ?_ | with_reducible refine W.block ?_ | refine W.exit rfl ?_ | refine z_l (kk := ?_) | refine z_f (kk := ?_) | refine z_M (kk := ?_) | refine z_m (kk := ?_) | refine z_e (kk := ?_) | refine z_E (kk := ?_) | refine z_d (kk := ?_) | refine z_I (kk := fun _ => ?_) | refine z_J (kk := fun _ => ?_) | refine z_K (kk := fun _ => ?_) | refine z_L (kk := fun _ => ?_) | refine z_T (kk := ?_) | refine z_F (kk := ?_) | refine z_k (kk := fun _ _ _ _ _ => ?_) | refine z_w (kk := fun _ _ => ?_) | refine z_s (kk := fun _ _ _ _ => ?_) | refine z_g (kk := ?_) | refine z_h (kk := ?_)))
    refine Ops.call rfl rfl rfl rfl rfl (awake_c _) (fun r w14 hR => ?_)
    obtain ⟨rfl, hb14⟩ := hR
    (repeat (first | with_reducible refine W.seq ?_ | with_reducible refine Ops.nil ?_ | with_reducible refine W.region ?_ | refine z_p (kk := ?_) | refine z_a (kk := ?_) | refine z_y (kk := ?_) | refine z_n (kk := ?_) | refine z_u (kk := ?_) | with_reducible refine W.skip ?_ | with_reducible refine W.endb ?_ | with_reducible refine W.block ?_ | refine W.exit rfl ?_ | refine z_l (kk := ?_) | refine z_f (kk := ?_) | refine z_M (kk := ?_) | refine z_m (kk := ?_) | refine z_e (kk := ?_) | refine z_E (kk := ?_) | refine z_d (kk := ?_) | refine z_I (kk := fun _ => ?_) | refine z_J (kk := fun _ => ?_) | refine z_K (kk := fun _ => ?_) | refine z_L (kk := fun _ => ?_) | refine z_T (kk := ?_) | refine z_F (kk := ?_) | refine z_k (kk := fun _ _ _ _ _ => ?_) | refine z_w (kk := fun _ _ => ?_) | refine z_s (kk := fun _ _ _ _ => ?_) | refine z_g (kk := ?_) | refine z_h (kk := ?_)))
    exact W.fret rfl ⟨rfl, Below.via (Below.via (Below.via hb011 hb12) hb13) hb14⟩
end Go.Proofs.Ytdiljpnfochndaa
/- Arguments as the walks read them. -/
namespace Go.Proofs.Ytdiljpnfochndaa.VW
open Go Go.RowKit
theorem sl_open {w : World} {x : Addr} {len cap : Nat} {zs : List Int} (hl : len ≤ cap) (hm : cap ≤ maxLen) (hz : zs.length = cap) (hc : ∀ i, i < zs.length → w.cell? (x.add i) = some (.int .i64 (zs.getD i 0))) : SlI w (.slice (some x) len cap) (zs.take len) := by
  have hlen : (zs.take len).length = len := by rw [List.length_take]; omega
  refine ⟨by rw [hlen]; simp only [maxLen] at hm; omega, some x, cap, by rw [hlen], fun _ => ⟨x, rfl, fun j hj => ?_⟩⟩
  rw [hlen] at hj
  rw [hc j (by omega)]
  simp [List.getD_eq_getElem?_getD, List.getElem?_take, hj]
end Go.Proofs.Ytdiljpnfochndaa.VW
/- Trees and lists among the arguments. -/
namespace Go.Proofs.Ytdiljpnfochndaa
open Go Go.RowKit Go.ChangeShapes Go.Proofs.Ytdiljpnfochndaa.VW
open Go.Proofs.Ytdiljpnfochndaa.HP (Nd kid wor)
theorem arg_open {w : World} {x : Addr} {len cap : Nat} {zs : List Int} (hl : len ≤ cap) (hm : cap ≤ maxLen) (hz : zs.length = cap) (hc : ∀ i, i < zs.length → w.cell? (x.add i) = some (.int .i64 (zs.getD i 0))) : Arg w (.slice (some x) len cap) (zs.take len) := by
  have hlen : (zs.take len).length = len := by rw [List.length_take]; omega
  exact ⟨sl_open hl hm hz hc, some x, cap, by rw [hlen], by omega⟩
theorem ints_arg {H : Type} {enc : TypeId × Value → H} {P : Program} {W : World} {t e : TypeId} {fuel : Nat} {v : Value} {x : DataW H × List MemPlace} (ht : P.underlying t = some (.slice e)) (he : P.underlying e = some (.int .i64)) (hc : P.cellsOf e = 1)
    (h : DataW.trod enc P W 0 (fun _ => true) true fuel t [v] = some x) : ∃ zs, Arg W v zs := by
  rcases open_ints ht he hc h with ⟨hcs, _⟩ | ⟨x, l, c, zs, hcs, _, hl, hm, hz, _, hcell, hwz⟩
  · simp at hcs
    subst hcs
    exact ⟨[], Sl.nil _ _ _ _ _, none, 0, rfl, Nat.le_refl _⟩
  · simp at hcs
    subst hcs
    exact ⟨_, arg_open hl hm (by simpa using hz) hcell⟩
theorem moves_arg {H : Type} {enc : TypeId × Value → H} {P : Program} {W : World} {t m s e : TypeId} {fuel : Nat} {v : Value} {x : DataW H × List MemPlace} {fs : Array Field} {f0 f1 : Field} (ht : P.underlying t = some (.slice m)) (hm : P.underlying m = some (.struct fs)) (hcm : P.cellsOf m = 2)
    (h0 : fs[0]? = some f0) (h1 : fs[1]? = some f1) (o0 : f0.offset = 0) (o1 : f1.offset = 1) (t0 : f0.type = s) (t1 : f1.type = e) (hs : P.underlying s = some (.slice e)) (he : P.underlying e = some (.int .i64)) (hcs : P.cellsOf s = 1) (hce : P.cellsOf e = 1)
    (h : DataW.trod enc P W 0 (fun _ => true) true fuel t [v] = some x) : ∃ l, ArgT W v l := by
  rcases DataW.trod_slice ht h with ⟨hv, _⟩ | ⟨a, len, cap, elems, rest, n, _, hv, _, hb, hl, hm2, hlen, hel, _, _⟩
  · simp at hv
    subst hv
    refine ⟨[], ⟨none, 0, [], rfl, fun h => by simp at h, fun j hj => by simp at hj⟩, by simp, fun i h1 h2 => by simp at h2; omega⟩
  · simp at hv
    subst hv
    have each : ∀ i, i < len → ∃ (cv : Value) (xs : List Int) (z : Int), W.cell? (a.add (i * 2)) = some cv ∧ W.cell? ((a.add (i * 2)).add 1) = some (.int .i64 z) ∧ Arg W cv xs := by
      intro i hi
      have hy := hel i hi
      rw [List.getElem?_eq_getElem (by omega), hcm, Option.bind_eq_some_iff] at hy
      obtain ⟨cs, hcs2, hst⟩ := hy
      obtain ⟨_, hcl, hcc⟩ := World.cells?_some hcs2
      obtain ⟨xs, n', _, _, _, hxl, hfld⟩ := DataW.trod_struct hm hst
      have q0 := hfld 0 f0 h0
      have q1 := hfld 1 f1 h1
      have hfs : 2 ≤ fs.size := by have := (Array.getElem?_eq_some_iff.1 h1).1; omega
      rw [o0, t0, hcs, List.getElem?_eq_getElem (by omega)] at q0
      rw [o1, t1, hce, List.getElem?_eq_getElem (by omega)] at q1
      obtain ⟨c0, c1, rfl⟩ : ∃ c0 c1, cs = [c0, c1] := by
        match cs, hcl with
        | [c0, c1], _ => exact ⟨c0, c1, rfl⟩
      simp only [List.drop_zero, List.take_succ_cons, List.take_zero] at q0
      simp only [List.drop_succ_cons, List.drop_zero, List.take_succ_cons, List.take_zero] at q1
      obtain ⟨zs, hz⟩ := ints_arg hs he hce q0
      obtain ⟨z, hz1, _, _⟩ := DataW.trod_int he q1
      simp at hz1
      subst hz1
      have g0 := hcc 0 (by omega)
      have g1 := hcc 1 (by omega)
      simp only [List.getElem?_cons_zero, List.getElem?_cons_succ] at g0 g1
      rw [show ∀ p : Addr, p.add 0 = p from add_zero'] at g0
      exact ⟨c0, zs, z, g0, g1, hz⟩
    have hx : ∀ i, ∃ q : Value × List Int × Int, i < len → W.cell? (a.add (i * 2)) = some q.1 ∧ W.cell? ((a.add (i * 2)).add 1) = some (.int .i64 q.2.2) ∧ Arg W q.1 q.2.1 := fun i => by
      by_cases hi : i < len
      · obtain ⟨cv, xs, z, g⟩ := each i hi
        exact ⟨⟨cv, xs, z⟩, fun _ => g⟩
      · exact ⟨⟨undef, [], 0⟩, fun h => absurd h hi⟩
    let q : Nat → Value × List Int × Int := fun i => Classical.choose (hx i)
    have hq : ∀ i, i < len → W.cell? (a.add (i * 2)) = some (q i).1 ∧ W.cell? ((a.add (i * 2)).add 1) = some (.int .i64 (q i).2.2) ∧ Arg W (q i).1 (q i).2.1 := fun i => Classical.choose_spec (hx i)
    let l : List Nd := (List.range len).map fun i => ((q i).2.1, (q i).2.2)
    have hll : l.length = len := by simp [l]
    have hlg : ∀ i, i < len → l.getD i ([], 0) = ((q i).2.1, (q i).2.2) := fun i hi => by simp [l, List.getD_eq_getElem?_getD, hi]
    let cvs : List Value := (List.range len).map fun i => (q i).1
    have hcg : ∀ i, i < len → cvs.getD i undef = (q i).1 := fun i hi => by simp [cvs, List.getD_eq_getElem?_getD, hi]
    have hT : TreeM W (.slice (some a) len cap) l := by
      refine ⟨some a, cap, cvs, by rw [hll], fun _ => ⟨a, rfl, fun j hj => ?_⟩, fun j hj => ?_⟩
      · rw [hll] at hj
        rw [hcg j hj, hlg j hj]
        exact ⟨(hq j hj).1, (hq j hj).2.1⟩
      · rw [hll] at hj
        rw [hcg j hj, hlg j hj]
        exact (hq j hj).2.2.1
    refine ⟨l, hT, by rw [hll]; simp only [maxLen] at hm2; omega, fun i h0 hi => ?_⟩
    rw [hll] at hi
    obtain ⟨g0, g1, g2, A', c', g3, g4⟩ := hq i.toNat (by omega)
    have hk : kid l i = (q i.toNat).2.1 := by unfold kid; rw [hlg i.toNat (by omega)]
    have hw : wor l i = (q i.toNat).2.2 := by unfold wor; rw [hlg i.toNat (by omega)]
    rw [hk, hw]
    refine ⟨a, cap, A', c', by rw [hll], by rw [← g3]; exact g2, g4, fun w' hb => ?_⟩
    have kk := Kp.of_below (S := fun _ => False) hb
    exact ⟨by rw [← g3]; exact cell_kp kk g0 (fun e => e), cell_kp kk g1 (fun e => e)⟩
end Go.Proofs.Ytdiljpnfochndaa
