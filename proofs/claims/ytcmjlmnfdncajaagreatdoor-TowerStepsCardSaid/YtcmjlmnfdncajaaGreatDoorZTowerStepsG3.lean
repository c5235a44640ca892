/- A part of the walk: what this seat's statements share. -/
import Derived.Test.YtcmjlmnfdncajaaGreatDoorZTowerStepsG1
import Derived.Test.YtcmjlmnfdncajaaGreatDoorZTowerStepsG2
import Derived.Test.YtcmjlmnfdncajaaGreatDoorZG9
set_option linter.unusedVariables false
set_option linter.unusedSimpArgs false
set_option linter.unusedSectionVars false
/- Plain: descents, one by one; products by one; finite ordinals. -/
namespace Go.Proofs.YtcmjlmnfdncajaaGreatDoor.TW
structure DesS (f : Nat) (a : Od) (n : Nat) (l : List Od) : Prop where
  pos : 1 ≤ l.length
  le : l.length ≤ f
  hd : l.getD 0 .nil = a
  fin : l.getD (l.length - 1) .nil = .nil
  nxt : ∀ i, i + 1 < l.length → l.getD i .nil ≠ .nil ∧ l.getD (i + 1) .nil = stepO (l.getD i .nil) (n + i) ∧ bigO (l.getD (i + 1) .nil) = false
theorem desW_spec : ∀ {f : Nat} {a : Od} {n : Nat} {l : List Od}, desW bigO f a n = some l → DesS f a n l
  | 0, a, n, l, h => by simp [desW] at h
  | f + 1, .nil, n, l, h => by
    simp only [desW, Option.some.injEq] at h
    subst h
    exact ⟨by simp, by simp, rfl, rfl, fun i hi => by simp at hi⟩
  | f + 1, .cons e c r, n, l, h => by
    simp only [desW] at h
    split at h
    · cases h
    · rename_i hb
      cases hx : desW bigO f (stepO (.cons e c r) n) (n + 1) with
      | none => rw [hx] at h; cases h
      | some q =>
        rw [hx] at h
        simp only [Option.map_some, Option.some.injEq] at h
        subst h
        have ih := desW_spec hx
        have hp := ih.pos
        refine ⟨by simp, by have := ih.le; simp; omega, rfl, ?_, fun i hi => ?_⟩
        · rw [List.length_cons, Nat.add_sub_cancel, show q.length = (q.length - 1) + 1 by omega, List.getD_cons_succ]
          exact ih.fin
        · cases i with
          | zero =>
            simp only [List.getD_cons_succ, List.getD_cons_zero, Nat.add_zero]
            rw [ih.hd]
            exact ⟨by simp, rfl, by simpa using hb⟩
          | succ i =>
            have := ih.nxt i (by simpa using hi)
            simp only [List.getD_cons_succ]
            rw [show n + (i + 1) = n + 1 + i by omega]
            exact this
theorem DesS.ok {f : Nat} {a : Od} {n : Nat} {l : List Od} (h : DesS f a n l) (hN : NF a) (hm : mostO a ≤ 1000) (hz : szO a ≤ 60) : ∀ i, i < l.length → NF (l.getD i .nil) ∧ mostO (l.getD i .nil) ≤ 1000 ∧ szO (l.getD i .nil) ≤ 60
  | 0, _ => by rw [h.hd]; exact ⟨hN, hm, hz⟩
  | i + 1, hi => by
    have ih := h.ok hN hm hz i (by omega)
    obtain ⟨h1, h2, h3⟩ := h.nxt i hi
    have h4 := of_decide_eq_false h3
    refine ⟨?_, by omega, by omega⟩
    rw [h2]
    exact step_NF _ ih.1
theorem DesS.rd {f : Nat} {a : Od} {n : Nat} {l : List Od} (h : DesS f a n l) (hN : NF a) (hm : mostO a ≤ 1000) (hz : szO a ≤ 60) {i : Nat} (hi : i < l.length) : rdA (txO (l.getD i .nil)) = some (l.getD i .nil) := by
  obtain ⟨h1, h2, h3⟩ := h.ok hN hm hz i hi
  exact rdA_tx h1 (small_of h1 h2) h3
/-- Behind the parts of a, all of which are greater. -/
theorem add_snoc : ∀ {a e : Od} {c : Nat}, NF (snocO a e c) → addO a (.cons e c .nil) = snocO a e c
  | .nil, e, c, _ => by rw [addO_nil]; rfl
  | .cons ae ac ar, e, c, h => by
    obtain ⟨h1, h2, h3, h4⟩ := h
    have hlt : ltO e ae := by
      have key : ∀ (ar : Od), NF (appO ar (.cons e c .nil)) → HdLt ae (appO ar (.cons e c .nil)) → ltO e ae := fun ar => by
        induction ar with
        | nil => intro _ h; exact h
        | cons x y z _ ih =>
          intro h h5
          refine ih h.2.2.1 ?_
          exact HdLt.up h5 h.2.2.2
      exact key ar h3 h4
    rw [addO_gt hlt, add_snoc h3]
    rfl
theorem prodR_one : ∀ (b acc : Od), NF (appO acc b) → okS (appO acc b) → prodR .nil 1 .nil acc b = some (appO acc b)
  | .nil, acc, _, _ => by rw [appO_nil]; rfl
  | .cons be bc br, acc, h, hk => by
    have e1 : nxtR .nil 1 .nil be bc = .cons be bc .nil := by
      cases be with
      | nil => simp [nxtR]
      | cons x y z => simp only [nxtR, addO_nil]
    rw [← appO_snoc] at h hk
    have hN : NF (snocO acc be bc) := by
      have key : ∀ (a b : Od), NF (appO a b) → NF a := fun a => by
        induction a with
        | nil => intro _ _; trivial
        | cons x y z _ ih =>
          intro b h
          refine ⟨h.1, h.2.1, ih b h.2.2.1, ?_⟩
          cases z with
          | nil => trivial
          | cons p q r => exact h.2.2.2
      exact key _ br h
    have hs := add_snoc hN
    simp only [prodR]
    rw [e1, hs, if_neg, prodR_one br _ h hk, appO_snoc]
    have h1 := hk.1
    have h2 := hk.2
    rw [most_app] at h1
    rw [szO_app] at h2
    unfold bigO
    simp only [decide_eq_true_eq]
    omega
def prodC : Od → Od → Option Od
  | .nil, _ => some .nil
  | .cons ae ac ar, b => prodL ae ac ar .nil b
theorem prodC_nil (a : Od) : prodC a .nil = some .nil := by cases a <;> rfl
theorem prodC_one {a : Od} (hN : NF a) (h : okS a) : prodC a oneO = some a := by
  cases a with
  | nil => rfl
  | cons e c r =>
    have hb : bigT (.cons e c r) = false := by
      have h1 := h.1
      have h2 := h.2
      have h3 := most_top (.cons e c r)
      exact decide_eq_false (by omega)
    show prodL e c r .nil (.cons .nil 1 .nil) = _
    have e1 : stL e c r .nil .nil 1 = some (.cons e c r) := by
      show (chk (.cons e (c * 1) r)).bind (addC .nil) = _
      rw [Nat.mul_one]
      unfold chk
      rw [hb]
      show addC .nil (.cons e c r) = _
      rw [addC_cons, addO_nil]
      unfold chk
      rw [hb]; rfl
    simp only [prodL, e1]
theorem one_prodC {b : Od} (hN : NF b) (h : okS b) : prodC oneO b = some b := by
  show prodL .nil 1 .nil .nil b = _
  rw [prod_eq ⟨by simp [mostO], by simp [szO]⟩ b .nil h.1 (by simp [exM]), prodR_one b .nil hN h]
  rfl
theorem prodR_ok {ae ar : Od} {ac : Nat} : ∀ (b acc r : Od), okS acc → prodR ae ac ar acc b = some r → okS r
  | .nil, acc, r, h, hr => by
    simp only [prodR, Option.some.injEq] at hr
    subst hr; exact h
  | .cons be bc br, acc, r, h, hr => by
    simp only [prodR] at hr
    split at hr
    · cases hr
    · rename_i hb
      refine prodR_ok br _ r ?_ hr
      unfold bigO at hb
      simp only [decide_eq_true_eq] at hb
      exact ⟨by omega, by omega⟩
theorem prodC_spec {a b r : Od} (ha : NF a) (hb : NF b) (ka : okS a) (kb : okS b) (h : prodC a b = some r) : r = mulO a b ∧ okS r := by
  cases a with
  | nil =>
    simp only [prodC, Option.some.injEq] at h
    subst h
    exact ⟨(nil_mul b).symm, by simp [okS, mostO, szO]⟩
  | cons ae ac ar =>
    have h1 := prod_mul ha b .nil r hb trivial h
    rw [addO_nil] at h1
    refine ⟨h1, ?_⟩
    have h2 : prodR ae ac ar .nil b = some r := by
      rw [← prod_eq ka b .nil kb.1 (by simp [exM])]
      exact h
    exact prodR_ok b .nil r (by simp [okS, mostO, szO]) h2
theorem mulO_NF {a b : Od} (ha : NF a) (hb : NF b) : NF (mulO a b) := by
  cases a with
  | nil => rw [nil_mul]; trivial
  | cons e c r => exact mul_NF ha hb
theorem okS_rd {a : Od} (h : NF a) (k : okS a) : rdA (txO a) = some a := rdA_tx h (small_of h k.1) k.2
theorem addC_spec {a b o : Od} (ka : okS a) (kb : okS b) (h : addC a b = some o) : o = addO a b ∧ okS o := by
  cases b with
  | nil =>
    simp only [addC, Option.some.injEq] at h
    subst h
    exact ⟨rfl, ka⟩
  | cons be bc br =>
    rw [addC_cons] at h
    unfold chk at h
    split at h
    · cases h
    · rename_i hb
      simp only [Option.some.injEq] at h
      subst h
      refine ⟨rfl, ?_⟩
      obtain ⟨a1, a2⟩ := ka
      obtain ⟨b1, b2⟩ := kb
      have h3 := exM_le a
      have h4 := exM_le (.cons be bc br)
      have h5 := (add_sizes a (.cons be bc br)).2.2.2.2
      have h6 := most_eq (addO a (.cons be bc br))
      have h7 : ¬ (1000 < topO (addO a (.cons be bc br)) ∨ 60 < szO (addO a (.cons be bc br))) := fun q => hb (decide_eq_true q)
      exact ⟨by omega, by omega⟩
theorem okS_big {a : Od} (h : okS a) : bigT a = false := by
  have := most_top a
  exact decide_eq_false (by have := h.1; have := h.2; omega)
/-- The sum, with what is too large, in one. -/
theorem addC_eq {a b : Od} (ka : okS a) : addC a b = chk (addO a b) := by
  cases b with
  | nil =>
    show some a = _
    rw [addO_nil']
    unfold chk
    rw [okS_big ka]; rfl
  | cons be bc br => rfl
theorem addC_assoc {a b c s t : Od} (ha : NF a) (hb : NF b) (hc : NF c) (ka : okS a) (kb : okS b) (kc : okS c) (h1 : addC a b = some s) (h2 : addC b c = some t) : addC s c = addC a t := by
  obtain ⟨e1, k1⟩ := addC_spec ka kb h1
  obtain ⟨e2, k2⟩ := addC_spec kb kc h2
  rw [addC_eq k1, addC_eq ka, e1, e2, addO_assoc ha hb hc]
theorem lim_hd {o : Od} (hN : NF o) (h : kindO o = 2) : ∃ e c r, o = .cons e c r ∧ e ≠ .nil := by
  cases o with
  | nil => simp [kindO] at h
  | cons e c r =>
    refine ⟨e, c, r, rfl, fun he => ?_⟩
    subst he
    have hr := hd_nil hN.2.2.2
    subst hr
    simp [kindO] at h
theorem fin_absorb {o : Od} {m : Nat} (hN : NF o) (h : kindO o = 2) : addO (ptO .nil m .nil) o = o := by
  obtain ⟨e, c, r, rfl, he⟩ := lim_hd hN h
  unfold ptO
  split
  · rename_i hm
    refine addO_lt ⟨trivial, hm, trivial, trivial⟩ ?_
    cases e with
    | nil => exact absurd rfl he
    | cons _ _ _ => exact nil_lt
  · rw [addO_nil]
end Go.Proofs.YtcmjlmnfdncajaaGreatDoor.TW
namespace Go.Proofs.YtcmjlmnfdncajaaGreatDoor
open Go Go.RowKit Go.Proofs.YtcmjlmnfdncajaaGreatDoor.VW Go.Proofs.YtcmjlmnfdncajaaGreatDoor.TW
attribute [local irreducible] W Ops OrdA VW.Ord OrdX Wi OpsI OrdF
set_option maxHeartbeats 16000000 in
theorem steps_c {w : World} {s0 : List UInt8} {n : Int} (hT : Tbl w) (hl : s0.length ≤ 9223372036854775807) : Calls Tryz.prog 5 #[S s0, .int .i64 n] w (Ret fun r w' => r = .bool true ∧ Below w.heap.size w w') := by
  refine calls_W (vs := [_, _]) Tryz.func5 rfl (by kernel_rfl) rfl ?_
  (repeat (first | with_reducible refine W.seq ?_ | with_reducible refine Ops.nil ?_ | with_reducible refine W.region ?_ | refine z_p (kk := ?_)))
  refine Ops.callS rfl rfl rfl rfl rfl (short_c (s := s0)) ?_
  have hsl := shS_len s0
  generalize shS s0 = s at *
  (repeat (first | with_reducible refine W.seq ?_ | with_reducible refine Ops.nil ?_ | with_reducible refine W.region ?_ | refine z_p (kk := ?_)))
  refine Ops.call rfl rfl rfl rfl rfl (Kind_c (s := s) (by omega)) (fun r w1 hR => ?_)
  obtain ⟨rfl, hb1⟩ := hR
  (repeat (first | with_reducible refine W.seq ?_ | with_reducible refine Ops.nil ?_ | with_reducible refine W.region ?_ | refine z_p (kk := ?_)))
  refine Ops.call rfl rfl rfl rfl rfl (Step_c (s := s) (n := n) (by omega) (hT.below hb1)) (fun r w2 hR => ?_)
  obtain ⟨rfl, hb12⟩ := hR
  have hb02 := Below.via hb1 hb12
  (repeat (first | with_reducible refine W.seq ?_ | with_reducible refine Ops.nil ?_ | with_reducible refine W.region ?_ | refine z_p (kk := ?_)))
  refine Ops.call rfl rfl rfl rfl rfl (Descent_c (s := s) (n := n) (by omega) (hT.below hb02)) (fun r w3 hR => ?_)
  obtain ⟨v, rfl, hD, hb23⟩ := hR
  have hb03 := Below.via hb02 hb23
  have hS : SlT w3 v ((outL (desR s n)).map txO) := (hD.base hb23.size).sl (z := ([] : List UInt8))
  obtain ⟨A, c, rfl⟩ := hD.sh
  clear hD
  (repeat (first | with_reducible refine W.seq ?_ | with_reducible refine Ops.nil ?_ | with_reducible refine W.region ?_ | refine z_p (kk := ?_)))
  refine Ops.call rfl rfl rfl rfl rfl (rRead_c (s := s) hsl) (fun r w4 hR => ?_)
  obtain ⟨hor, hb34⟩ := hR
  have hb04 := Below.via hb03 hb34
  rcases hor with ⟨a, va, hrd, rfl, hA⟩ | ⟨va, hrd, rfl⟩
  rotate_left
  · have q1 : kindR s = .error 4 := by unfold kindR; rw [hrd]
    have q2 : stepR s n = .error 4 := by unfold stepR; rw [hrd]
    have q3 : desR s n = .error 4 := by unfold desR; rw [hrd]
    rw [q1, q2, q3]
    rw [show outK (.error 4) = 0 from rfl, show outE (.error 4 : Except Int Nat) = 4 from rfl, show outS (.error 4) = [] from rfl, show outE (.error 4 : Except Int (List UInt8)) = 4 from rfl, show outE (.error 4 : Except Int (List Od)) = 4 from rfl, show ((outL (.error 4)).map txO).length = 0 from rfl]
    (repeat (first | with_reducible refine W.seq ?_ | with_reducible refine Ops.nil ?_ | with_reducible refine W.region ?_ | refine z_p (kk := ?_)))
    refine W.condT rfl (by first | rfl | assumption | (simp only [bnf] <;> omega) | (simp only [*, bnf]; done) | fail) ?_
    (repeat (first | with_reducible refine W.seq ?_ | with_reducible refine W.region ?_ | refine z_p (kk := ?_) | refine z_y (kk := ?_) | refine z_l (kk := ?_) | refine z_ev (EV.seq rfl rfl rfl rfl) (kk := ?_)))
    refine Ops.call rfl rfl rfl rfl rfl (awake_c (hT.below hb04)) (fun r wz hR => ?_)
    obtain ⟨rfl, hbz⟩ := hR
    (repeat (first | with_reducible refine Ops.nil ?_ | refine z_p (kk := ?_)))
    exact W.fret rfl ⟨rfl, Below.via hb04 hbz⟩
  obtain ⟨hN, hSm, hz⟩ := rdA_spec hrd
  have hmo := small_most hSm
  have q1 : kindR s = .ok (kindO a) := by unfold kindR; rw [hrd]
  rw [q1, show outK (.ok (kindO a)) = ((kindO a : Nat) : Int) from rfl, show outE (.ok (kindO a) : Except Int Nat) = 0 from rfl]
  have f1 : (((kindO a : Nat) : Int) != ((kindO a : Nat) : Int)) = false := by simp
  (repeat (first | with_reducible refine W.seq ?_ | with_reducible refine Ops.nil ?_ | with_reducible refine W.region ?_ | refine z_p (kk := ?_)))
  refine W.condF rfl (by first | rfl | assumption | (simp only [bnf] <;> omega) | (simp only [*, bnf]; done) | fail) ?_
  (repeat (first | with_reducible refine W.seq ?_ | with_reducible refine W.region ?_ | refine z_p (kk := ?_) | with_reducible refine W.skip ?_))
  refine Ops.callS rfl rfl rfl rfl rfl (rKind_c hA) ?_
  (repeat (first | with_reducible refine Ops.nil ?_ | refine z_p (kk := ?_) | refine z_y (kk := ?_) | refine z_h (kk := ?_)))
  refine W.condF rfl (by first | rfl | assumption | (simp; done)) ?_
  by_cases hn : 0 ≤ n ∧ n ≤ 1000
  rotate_left
  · have q2 : stepR s n = .error 2 := by unfold stepR; rw [hrd]; simp only; rw [if_neg hn]
    have q3 : desR s n = .error 2 := by unfold desR; rw [hrd]; simp only; rw [if_neg hn]
    rw [q2, q3]
    rw [show outS (.error 2) = [] from rfl, show outE (.error 2 : Except Int (List UInt8)) = 2 from rfl, show outE (.error 2 : Except Int (List Od)) = 2 from rfl, show ((outL (.error 2)).map txO).length = 0 from rfl]
    by_cases h0 : n < 0
    all_goals (
      (repeat (first | with_reducible refine W.seq ?_ | with_reducible refine Ops.nil ?_ | with_reducible refine W.region ?_ | refine z_p (kk := ?_) | refine z_y (kk := ?_) | refine z_n (kk := ?_) | with_reducible refine W.skip ?_ | refine z_g (kk := ?_) | refine z_h (kk := ?_)))
      refine W.condT rfl (by first | (simp; done) | (simp; omega)) ?_
      (repeat (first | with_reducible refine W.seq ?_ | with_reducible refine W.region ?_ | refine z_p (kk := ?_) | refine z_y (kk := ?_) | refine z_l (kk := ?_) | refine z_ev (EV.seq rfl rfl rfl rfl) (kk := ?_)))
      refine Ops.call rfl rfl rfl rfl rfl (awake_c (hT.below hb04)) (fun r wz hR => ?_)
      obtain ⟨rfl, hbz⟩ := hR
      (repeat (first | with_reducible refine Ops.nil ?_ | refine z_p (kk := ?_)))
      exact W.fret rfl ⟨rfl, Below.via hb04 hbz⟩)
  obtain ⟨n0, rfl⟩ : ∃ n0 : Nat, n = (n0 : Int) := ⟨n.toNat, by omega⟩
  have q2 : stepR s (n0 : Int) = if kindO a = 0 then .error 6 else if bigT (stepO a n0) = true then .error 5 else .ok (txO (stepO a n0)) := by
    unfold stepR
    rw [hrd]
    simp only
    rw [if_pos hn, Int.toNat_natCast]
  have q3 : desR s (n0 : Int) = match desW bigO 300 a n0 with | none => .error 5 | some l => .ok l := by
    unfold desR
    rw [hrd]
    simp only
    rw [if_pos hn, Int.toNat_natCast, des_eq _ _ _ hmo]
    all_goals (cases desW bigO 300 a n0 <;> rfl)
  have f2 : decide ((n0 : Int) < 0) = false := decide_eq_false (by omega)
  have hsm := step_most a n0
  have hss := step_sz a n0
  have hsq : szO a * (szO a + 1) ≤ 60 * 61 := Nat.mul_le_mul hz (by omega)
  have hbe : bigO (stepO a n0) = bigT (stepO a n0) := big_eq (by have := exM_le (stepO a n0); omega)
  (repeat (first | with_reducible refine W.seq ?_ | with_reducible refine Ops.nil ?_ | with_reducible refine W.region ?_ | refine z_p (kk := ?_) | refine z_y (kk := ?_) | with_reducible refine W.skip ?_))
  refine W.condF rfl (by first | (simp; done) | (simp; omega)) ?_
  refine W.skip ?_
  refine W.seq ?_
  refine W.cut (fun ρ w' => ρ = [(1, .int .i64 (n0 : Int)), (10, .slice A ((outL (desR s (n0 : Int))).map txO).length c), (11, .int .i64 (outE (desR s (n0 : Int)))), (12, va)] ∧ Below w4.heap.size w4 w') ?_ ?_
  · by_cases hk : kindO a = 0
    · rw [if_pos hk] at q2
      rw [q2, hk, show outS (.error 6) = [] from rfl, show outE (.error 6 : Except Int (List UInt8)) = 6 from rfl]
      (repeat (first | with_reducible refine W.seq ?_ | with_reducible refine Ops.nil ?_ | with_reducible refine W.region ?_ | refine z_p (kk := ?_)))
      refine W.condT rfl (by first | rfl | assumption | (simp only [bnf] <;> omega) | (simp only [*, bnf]; done) | fail) ?_
      (repeat (first | with_reducible refine W.seq ?_ | with_reducible refine Ops.nil ?_ | with_reducible refine W.region ?_ | refine z_p (kk := ?_) | refine z_y (kk := ?_) | refine z_ev (EV.sne rfl rfl rfl rfl) (kk := ?_)))
      refine W.condF rfl (by first | rfl | assumption | (simp only [bnf] <;> omega) | (simp only [*, bnf]; done) | fail) ?_
      (repeat (first | with_reducible refine W.skip ?_))
      exact W.endl ⟨_, ⟨rfl, Below.refl _ _⟩, (by repeat (first | exact trivial | refine And.intro rfl ?_))⟩
    · rw [if_neg hk] at q2
      have hne : a ≠ .nil := fun e => hk (kind_zero.2 e)
      have f3 : (((kindO a : Nat) : Int) == 0) = false := by rw [beq_eq_false_iff_ne]; omega
      have g1 : bigO (stepO a n0) = true → outS (stepR s (n0 : Int)) = [] ∧ outE (stepR s (n0 : Int)) = 5 := fun h => by
        rw [q2, if_pos (by rw [← hbe]; exact h)]; exact ⟨rfl, rfl⟩
      have g2 : bigO (stepO a n0) = false → outS (stepR s (n0 : Int)) = txO (stepO a n0) ∧ outE (stepR s (n0 : Int)) = 0 := fun h => by
        rw [q2, if_neg (by rw [← hbe, h]; simp)]; exact ⟨rfl, rfl⟩
      generalize outS (stepR s (n0 : Int)) = t8 at *
      generalize outE (stepR s (n0 : Int)) = e9 at *
      (repeat (first | with_reducible refine W.seq ?_ | with_reducible refine Ops.nil ?_ | with_reducible refine W.region ?_ | refine z_p (kk := ?_)))
      refine W.condF rfl (by first | rfl | assumption | (simp; done) | (simp; omega)) ?_
      (repeat (first | with_reducible refine W.seq ?_ | with_reducible refine W.region ?_ | refine z_p (kk := ?_)))
      refine Ops.call rfl rfl rfl rfl rfl (rStep_c (S' := fun k => k < w3.heap.size) _ (Nat.le_refl _) (by omega) hne (by omega) (by omega) (fun i hi => by have := hb34.size; have hi : i < w3.heap.size := hi; omega) hA) (fun v5 w5 hR => ?_)
      obtain ⟨hO5, hb45⟩ := hR
      (repeat (first | with_reducible refine W.seq ?_ | with_reducible refine Ops.nil ?_ | with_reducible refine W.region ?_ | refine z_p (kk := ?_)))
      refine Ops.call rfl rfl rfl rfl rfl (rFull_c (by omega) hO5) (fun r w6 hR => ?_)
      obtain ⟨rfl, hb56⟩ := hR
      skip
      refine Ops.call rfl rfl rfl rfl rfl (same_c (o := stepO a n0) g1 (fun h => ⟨(g2 h).1, (g2 h).2, hO5.below hb56, by have := of_decide_eq_false h; omega, by omega⟩)) (fun r w7 hR => ?_)
      obtain ⟨rfl, hb67⟩ := hR
      (repeat (first | with_reducible refine Ops.nil ?_ | refine z_p (kk := ?_)))
      refine W.condF rfl (by first | rfl | assumption | (simp only [bnf] <;> omega) | (simp only [*, bnf]; done) | fail) ?_
      (repeat (first | with_reducible refine W.skip ?_))
      exact W.endl ⟨_, ⟨rfl, Below.via hb45 (Below.via hb56 hb67)⟩, (by repeat (first | exact trivial | refine And.intro rfl ?_))⟩
  rintro ρ w5 ⟨rfl, hb45⟩
  have hb05 := Below.via hb04 hb45
  have hb35 := Below.via hb34 hb45
  have hs3 := hb34.size
  have hs4 := hb45.size
  clear q2
  (repeat (first | with_reducible refine W.seq ?_ | with_reducible refine W.region ?_ | refine z_p (kk := ?_)))
  refine Ops.call rfl rfl rfl rfl rfl (rDescent_c (S' := fun k => k < w3.heap.size) (n := n0) hz hmo (by omega) (fun i hi => by have hi : i < w3.heap.size := hi; omega) (hA.below hb45)) (fun r w6 hR => ?_)
  obtain ⟨hor, hb56⟩ := hR
  have hb06 := Below.via hb05 hb56
  rcases hor with ⟨hno, vl, rfl⟩ | ⟨l, vl, hs, hd, rfl, hRR, hLL⟩
  · rw [hno] at q3
    simp only at q3
    rw [q3, show outE (.error 5 : Except Int (List Od)) = 5 from rfl, show ((outL (.error 5)).map txO).length = 0 from rfl]
    (repeat (first | with_reducible refine W.seq ?_ | with_reducible refine Ops.nil ?_ | with_reducible refine W.region ?_ | refine z_p (kk := ?_)))
    refine W.condT rfl (by first | rfl | assumption | (simp only [bnf] <;> omega) | (simp only [*, bnf]; done) | fail) ?_
    (repeat (first | with_reducible refine W.seq ?_ | with_reducible refine W.region ?_ | refine z_p (kk := ?_) | refine z_y (kk := ?_) | refine z_l (kk := ?_)))
    refine Ops.call rfl rfl rfl rfl rfl (awake_c (hT.below hb06)) (fun r wz hR => ?_)
    obtain ⟨rfl, hbz⟩ := hR
    (repeat (first | with_reducible refine Ops.nil ?_ | refine z_p (kk := ?_)))
    exact W.fret rfl ⟨rfl, Below.via hb06 hbz⟩
  · rw [hd] at q3
    simp only at q3
    have hDS := desW_spec hd
    have hok := hDS.ok hN hmo hz
    have hle := hDS.le
    rw [q3, show outL (.ok l) = l from rfl] at hS ⊢
    rw [show outE (.ok l : Except Int (List Od)) = 0 from rfl]
    (repeat (first | with_reducible refine W.seq ?_ | with_reducible refine Ops.nil ?_ | with_reducible refine W.region ?_ | refine z_p (kk := ?_)))
    refine W.condF rfl (by first | rfl | assumption | (simp only [bnf] <;> omega) | (simp only [*, bnf]; done) | fail) ?_
    (repeat (first | with_reducible refine W.seq ?_ | with_reducible refine W.region ?_ | refine z_p (kk := ?_) | with_reducible refine W.skip ?_))
    refine Ops.call rfl rfl rfl rfl rfl (told_c hRR hLL (fun i hi => by have := hok i hi; omega) (by omega)) (fun r w7 hR => ?_)
    obtain ⟨hTo, hb67⟩ := hR
    have hb07 := Below.via hb06 hb67
    skip
    refine Ops.call rfl rfl rfl rfl rfl (texts_c (Sl.below hS (Below.via hb35 (Below.via hb56 hb67))) hTo) (fun r w8 hR => ?_)
    obtain ⟨rfl, hb78⟩ := hR
    have hb08 := Below.via hb07 hb78
    have hdt : decide (l.map txO = l.map txO) = true := by simp
    (repeat (first | refine z_p (kk := ?_) | refine z_y (kk := ?_) | refine z_h (kk := ?_)))
    refine Ops.call rfl rfl rfl rfl rfl (awake_c (hT.below hb08)) (fun r wz hR => ?_)
    obtain ⟨rfl, hbz⟩ := hR
    (repeat (first | with_reducible refine Ops.nil ?_ | refine z_p (kk := ?_)))
    exact W.fret rfl ⟨rfl, Below.via hb08 hbz⟩
end Go.Proofs.YtcmjlmnfdncajaaGreatDoor
