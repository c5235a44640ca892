/- A part of the walk: what this seat's statements share. -/
import Derived.Test.YtcmjlmnfdncajaaGreatDoorZTowerFallsG1
import Derived.Test.YtcmjlmnfdncajaaGreatDoorZG4
import Derived.Test.YtcmjlmnfdncajaaGreatDoorZG7
set_option linter.unusedVariables false
set_option linter.unusedSimpArgs false
set_option linter.unusedSectionVars false
/- Plain: descents, one by one; products by one; finite ordinals. -/
namespace Go.Proofs.YtcmjlmnfdncajaaGreatDoor.TW
structure DesS (f : Nat) (a : Od) (n : Nat) (l : List Od) : Prop where
  pos : 1 ≤ l.length
  le : l.length ≤ f
  hd : l.getD 0 .nil = a
  fin : l.getD (l.length - 1) .nil = .nil
  nxt : ∀ i, i + 1 < l.length → l.getD i .nil ≠ .nil ∧ l.getD (i + 1) .nil = stepO (l.getD i .nil) (n + i) ∧ bigO (l.getD (i + 1) .nil) = false
theorem desW_spec : ∀ {f : Nat} {a : Od} {n : Nat} {l : List Od}, desW bigO f a n = some l → DesS f a n l
  | 0, a, n, l, h => by simp [desW] at h
  | f + 1, .nil, n, l, h => by
    simp only [desW, Option.some.injEq] at h
    subst h
    exact ⟨by simp, by simp, rfl, rfl, fun i hi => by simp at hi⟩
  | f + 1, .cons e c r, n, l, h => by
    simp only [desW] at h
    split at h
    · cases h
    · rename_i hb
      cases hx : desW bigO f (stepO (.cons e c r) n) (n + 1) with
      | none => rw [hx] at h; cases h
      | some q =>
        rw [hx] at h
        simp only [Option.map_some, Option.some.injEq] at h
        subst h
        have ih := desW_spec hx
        have hp := ih.pos
        refine ⟨by simp, by have := ih.le; simp; omega, rfl, ?_, fun i hi => ?_⟩
        · rw [List.length_cons, Nat.add_sub_cancel, show q.length = (q.length - 1) + 1 by omega, List.getD_cons_succ]
          exact ih.fin
        · cases i with
          | zero =>
            simp only [List.getD_cons_succ, List.getD_cons_zero, Nat.add_zero]
            rw [ih.hd]
            exact ⟨by simp, rfl, by simpa using hb⟩
          | succ i =>
            have := ih.nxt i (by simpa using hi)
            simp only [List.getD_cons_succ]
            rw [show n + (i + 1) = n + 1 + i by omega]
            exact this
theorem DesS.ok {f : Nat} {a : Od} {n : Nat} {l : List Od} (h : DesS f a n l) (hN : NF a) (hm : mostO a ≤ 1000) (hz : szO a ≤ 60) : ∀ i, i < l.length → NF (l.getD i .nil) ∧ mostO (l.getD i .nil) ≤ 1000 ∧ szO (l.getD i .nil) ≤ 60
  | 0, _ => by rw [h.hd]; exact ⟨hN, hm, hz⟩
  | i + 1, hi => by
    have ih := h.ok hN hm hz i (by omega)
    obtain ⟨h1, h2, h3⟩ := h.nxt i hi
    have h4 := of_decide_eq_false h3
    refine ⟨?_, by omega, by omega⟩
    rw [h2]
    exact step_NF _ ih.1
theorem DesS.rd {f : Nat} {a : Od} {n : Nat} {l : List Od} (h : DesS f a n l) (hN : NF a) (hm : mostO a ≤ 1000) (hz : szO a ≤ 60) {i : Nat} (hi : i < l.length) : rdA (txO (l.getD i .nil)) = some (l.getD i .nil) := by
  obtain ⟨h1, h2, h3⟩ := h.ok hN hm hz i hi
  exact rdA_tx h1 (small_of h1 h2) h3
/-- Behind the parts of a, all of which are greater. -/
theorem add_snoc : ∀ {a e : Od} {c : Nat}, NF (snocO a e c) → addO a (.cons e c .nil) = snocO a e c
  | .nil, e, c, _ => by rw [addO_nil]; rfl
  | .cons ae ac ar, e, c, h => by
    obtain ⟨h1, h2, h3, h4⟩ := h
    have hlt : ltO e ae := by
      have key : ∀ (ar : Od), NF (appO ar (.cons e c .nil)) → HdLt ae (appO ar (.cons e c .nil)) → ltO e ae := fun ar => by
        induction ar with
        | nil => intro _ h; exact h
        | cons x y z _ ih =>
          intro h h5
          refine ih h.2.2.1 ?_
          exact HdLt.up h5 h.2.2.2
      exact key ar h3 h4
    rw [addO_gt hlt, add_snoc h3]
    rfl
theorem prodR_one : ∀ (b acc : Od), NF (appO acc b) → okS (appO acc b) → prodR .nil 1 .nil acc b = some (appO acc b)
  | .nil, acc, _, _ => by rw [appO_nil]; rfl
  | .cons be bc br, acc, h, hk => by
    have e1 : nxtR .nil 1 .nil be bc = .cons be bc .nil := by
      cases be with
      | nil => simp [nxtR]
      | cons x y z => simp only [nxtR, addO_nil]
    rw [← appO_snoc] at h hk
    have hN : NF (snocO acc be bc) := by
      have key : ∀ (a b : Od), NF (appO a b) → NF a := fun a => by
        induction a with
        | nil => intro _ _; trivial
        | cons x y z _ ih =>
          intro b h
          refine ⟨h.1, h.2.1, ih b h.2.2.1, ?_⟩
          cases z with
          | nil => trivial
          | cons p q r => exact h.2.2.2
      exact key _ br h
    have hs := add_snoc hN
    simp only [prodR]
    rw [e1, hs, if_neg, prodR_one br _ h hk, appO_snoc]
    have h1 := hk.1
    have h2 := hk.2
    rw [most_app] at h1
    rw [szO_app] at h2
    unfold bigO
    simp only [decide_eq_true_eq]
    omega
def prodC : Od → Od → Option Od
  | .nil, _ => some .nil
  | .cons ae ac ar, b => prodL ae ac ar .nil b
theorem prodC_nil (a : Od) : prodC a .nil = some .nil := by cases a <;> rfl
theorem prodC_one {a : Od} (hN : NF a) (h : okS a) : prodC a oneO = some a := by
  cases a with
  | nil => rfl
  | cons e c r =>
    have hb : bigT (.cons e c r) = false := by
      have h1 := h.1
      have h2 := h.2
      have h3 := most_top (.cons e c r)
      exact decide_eq_false (by omega)
    show prodL e c r .nil (.cons .nil 1 .nil) = _
    have e1 : stL e c r .nil .nil 1 = some (.cons e c r) := by
      show (chk (.cons e (c * 1) r)).bind (addC .nil) = _
      rw [Nat.mul_one]
      unfold chk
      rw [hb]
      show addC .nil (.cons e c r) = _
      rw [addC_cons, addO_nil]
      unfold chk
      rw [hb]; rfl
    simp only [prodL, e1]
theorem one_prodC {b : Od} (hN : NF b) (h : okS b) : prodC oneO b = some b := by
  show prodL .nil 1 .nil .nil b = _
  rw [prod_eq ⟨by simp [mostO], by simp [szO]⟩ b .nil h.1 (by simp [exM]), prodR_one b .nil hN h]
  rfl
theorem prodR_ok {ae ar : Od} {ac : Nat} : ∀ (b acc r : Od), okS acc → prodR ae ac ar acc b = some r → okS r
  | .nil, acc, r, h, hr => by
    simp only [prodR, Option.some.injEq] at hr
    subst hr; exact h
  | .cons be bc br, acc, r, h, hr => by
    simp only [prodR] at hr
    split at hr
    · cases hr
    · rename_i hb
      refine prodR_ok br _ r ?_ hr
      unfold bigO at hb
      simp only [decide_eq_true_eq] at hb
      exact ⟨by omega, by omega⟩
theorem prodC_spec {a b r : Od} (ha : NF a) (hb : NF b) (ka : okS a) (kb : okS b) (h : prodC a b = some r) : r = mulO a b ∧ okS r := by
  cases a with
  | nil =>
    simp only [prodC, Option.some.injEq] at h
    subst h
    exact ⟨(nil_mul b).symm, by simp [okS, mostO, szO]⟩
  | cons ae ac ar =>
    have h1 := prod_mul ha b .nil r hb trivial h
    rw [addO_nil] at h1
    refine ⟨h1, ?_⟩
    have h2 : prodR ae ac ar .nil b = some r := by
      rw [← prod_eq ka b .nil kb.1 (by simp [exM])]
      exact h
    exact prodR_ok b .nil r (by simp [okS, mostO, szO]) h2
theorem mulO_NF {a b : Od} (ha : NF a) (hb : NF b) : NF (mulO a b) := by
  cases a with
  | nil => rw [nil_mul]; trivial
  | cons e c r => exact mul_NF ha hb
theorem okS_rd {a : Od} (h : NF a) (k : okS a) : rdA (txO a) = some a := rdA_tx h (small_of h k.1) k.2
theorem addC_spec {a b o : Od} (ka : okS a) (kb : okS b) (h : addC a b = some o) : o = addO a b ∧ okS o := by
  cases b with
  | nil =>
    simp only [addC, Option.some.injEq] at h
    subst h
    exact ⟨rfl, ka⟩
  | cons be bc br =>
    rw [addC_cons] at h
    unfold chk at h
    split at h
    · cases h
    · rename_i hb
      simp only [Option.some.injEq] at h
      subst h
      refine ⟨rfl, ?_⟩
      obtain ⟨a1, a2⟩ := ka
      obtain ⟨b1, b2⟩ := kb
      have h3 := exM_le a
      have h4 := exM_le (.cons be bc br)
      have h5 := (add_sizes a (.cons be bc br)).2.2.2.2
      have h6 := most_eq (addO a (.cons be bc br))
      have h7 : ¬ (1000 < topO (addO a (.cons be bc br)) ∨ 60 < szO (addO a (.cons be bc br))) := fun q => hb (decide_eq_true q)
      exact ⟨by omega, by omega⟩
theorem okS_big {a : Od} (h : okS a) : bigT a = false := by
  have := most_top a
  exact decide_eq_false (by have := h.1; have := h.2; omega)
/-- The sum, with what is too large, in one. -/
theorem addC_eq {a b : Od} (ka : okS a) : addC a b = chk (addO a b) := by
  cases b with
  | nil =>
    show some a = _
    rw [addO_nil']
    unfold chk
    rw [okS_big ka]; rfl
  | cons be bc br => rfl
theorem addC_assoc {a b c s t : Od} (ha : NF a) (hb : NF b) (hc : NF c) (ka : okS a) (kb : okS b) (kc : okS c) (h1 : addC a b = some s) (h2 : addC b c = some t) : addC s c = addC a t := by
  obtain ⟨e1, k1⟩ := addC_spec ka kb h1
  obtain ⟨e2, k2⟩ := addC_spec kb kc h2
  rw [addC_eq k1, addC_eq ka, e1, e2, addO_assoc ha hb hc]
theorem lim_hd {o : Od} (hN : NF o) (h : kindO o = 2) : ∃ e c r, o = .cons e c r ∧ e ≠ .nil := by
  cases o with
  | nil => simp [kindO] at h
  | cons e c r =>
    refine ⟨e, c, r, rfl, fun he => ?_⟩
    subst he
    have hr := hd_nil hN.2.2.2
    subst hr
    simp [kindO] at h
theorem fin_absorb {o : Od} {m : Nat} (hN : NF o) (h : kindO o = 2) : addO (ptO .nil m .nil) o = o := by
  obtain ⟨e, c, r, rfl, he⟩ := lim_hd hN h
  unfold ptO
  split
  · rename_i hm
    refine addO_lt ⟨trivial, hm, trivial, trivial⟩ ?_
    cases e with
    | nil => exact absurd rfl he
    | cons _ _ _ => exact nil_lt
  · rw [addO_nil]
end Go.Proofs.YtcmjlmnfdncajaaGreatDoor.TW
namespace Go.Proofs.YtcmjlmnfdncajaaGreatDoor.VW
open Go Go.RowKit
section
variable {P : Program} [hT : Tab P] {n : Nat} {ds : List Deferred} {Φ : Post} {k : List It} {ρ : E} {w : World} {all : Array Oper} {l : List Oper} {md : Option (List Oper)} {s : Nat} {F : World → Prop} {π : List (Nat × Nat)} {L : List Bool}
/-- An element of an array in a block that stands. -/
theorem x_A {i1 i2 d1 d2 t e t' t2 b i len : Nat} {o1 o2 : Oper} {x y : Operand} {cs : Array Value} {v : Value} {w0 : World} {c1 c2 : Bool} (e1 : all[i1]? = some o1 := by exact rfl) (h1 : o1.op = .indexAddr t x y := by exact rfl) (hd1 : o1.dst = some d1 := by exact rfl) (hg1 : gdB all ρ o1.guard = some c1 := by exact rfl) (hc1 : c1 = true := by exact rfl) (e2 : all[i2]? = some o2 := by exact rfl) (h2 : o2.op = .load t' (.tmp d1) := by exact rfl) (hd2 : o2.dst = some d2 := by exact rfl) (hg2 : ∀ p, gdB all ((d1, .pointer p) :: ρ) o2.guard = some c2 := by exact fun _ => rfl) (hc2 : c2 = true := by exact rfl)
    (ht : tyD P t = some (.array len e) := by exact rfl) (hs : tyS P e = some 1 := by exact rfl) (ha : tyAgg P t' = some false := by exact rfl) (hx : ev ρ x = some (.pointer (some ⟨b, 0, none⟩)) := by exact rfl) (hy : ev ρ y = some (.int .i64 (i : Int)) := by exact rfl) (hb : Blk w0 b cs t2 := by assumption) (hF : ∀ w, F w → Below w0.heap.size w0 w := by first | exact fun _ h => h | (intro _ h; exact Below.via (by assumption) h)) (hi : i < len := by omega) (hn : nth cs.toList i = some v := by exact rfl)
    (kk : ∀ p, OrdA P n ds all k Φ s F π ((L.set i1 true).set i2 true) ((d2, v) :: (d1, p) :: ρ)) : OrdA P n ds all k Φ s F ((i1, 1) :: (i2, 2) :: π) L ρ := by
  refine OrdA.pure e1 hd1 hg1 hc1 (fun w => EV.idxP h1 ht hs hx hy (by omega) (by omega)) ?_
  have e : (⟨b, 0, none⟩ : Addr).add ((i : Int).toNat * 1) = ⟨b, i, none⟩ := by rw [add_lit]; simp
  rw [e]
  exact OrdA.read e2 hd2 (hg2 _) hc2 (fun w hw => EV.ld h2 ha (ev_top _ _ _) ((hb.kp (Kp.of_below (S := fun _ => False) (hF w hw)) (fun e => e)).cell (by rw [nth_eq] at hn; simpa using hn))) (kk _)
end
end Go.Proofs.YtcmjlmnfdncajaaGreatDoor.VW
namespace Go.Proofs.YtcmjlmnfdncajaaGreatDoor
open Go Go.RowKit Go.Proofs.YtcmjlmnfdncajaaGreatDoor.VW Go.Proofs.YtcmjlmnfdncajaaGreatDoor.TW
attribute [local irreducible] W Ops OrdA VW.Ord OrdX Wi OpsI OrdF
theorem bothR_ok {G : Od → Od → Except Int Od} {a b : Od} (ha : rdA (txO a) = some a) (hb : rdA (txO b) = some b) : bothR G (txO a) (txO b) = (G a b).map txO := by
  unfold bothR
  rw [ha, hb]
theorem ordS_tx (s : List UInt8) : rdA (txO (ordS s)) = some (ordS s) ∧ (txO (ordS s)).length ≤ 4294967295 ∧ NF (ordS s) ∧ okS (ordS s) ∧ mostO (ordS s) ≤ 24 ∧ szO (ordS s) ≤ 39 := by
  obtain ⟨q1, q2, q3⟩ := ordS_ok s
  have := txO_len (o := ordS s) (by omega)
  exact ⟨rdA_ordS s, by omega, q1, ⟨by omega, by omega⟩, q2, q3⟩
theorem tx_bd {a : Od} (h : okS a) : (txO a).length ≤ 4294967295 := by
  have := txO_len (o := a) (by have := h.1; omega)
  have := h.2
  omega
theorem eM_some {o : Od} : outE ((fullG (some o)).map txO) = 0 ∧ outS ((fullG (some o)).map txO) = txO o := ⟨rfl, rfl⟩
theorem eM_none : outE ((fullG none).map txO) = 5 ∧ outS ((fullG none).map txO) = [] := ⟨rfl, rfl⟩
theorem Compare_tx {w : World} {a b : Od} (ha : rdA (txO a) = some a) (hb : rdA (txO b) = some b) (la : (txO a).length ≤ 4294967295) (lb : (txO b).length ≤ 4294967295) :
    Calls Tryz.prog 20 #[S (txO a), S (txO b)] w (Ret fun r w' => r = .tuple #[.int .i64 (cmpO a b), .int .i64 0] ∧ Below w.heap.size w w') := by
  have h := Compare_c (w := w) la lb
  rw [cmpR_ok ha hb] at h
  exact h
theorem Sum_tx {w : World} {a b : Od} (ha : rdA (txO a) = some a) (hb : rdA (txO b) = some b) (la : (txO a).length ≤ 4294967295) (lb : (txO b).length ≤ 4294967295) (hT : Tbl w) :
    Calls Tryz.prog 21 #[S (txO a), S (txO b)] w (Ret fun r w' => r = .tuple #[S (outS ((fullG (addC a b)).map txO)), .int .i64 (outE ((fullG (addC a b)).map txO))] ∧ Below w.heap.size w w') := by
  have h := Sum_c (w := w) la lb hT
  rw [bothR_ok ha hb] at h
  exact h
theorem tx_dec {a b : Od} (ra : rdA (txO a) = some a) (rb : rdA (txO b) = some b) : decide (txO a = txO b) = (cmpO a b == 0) := by
  rw [Bool.eq_iff_iff]
  simp only [decide_eq_true_eq, beq_iff_eq]
  exact ⟨fun h => cmp_zero.2 (txO_inj ra rb h), fun h => by rw [cmp_zero.1 h]⟩
set_option maxHeartbeats 8000000 in
theorem ordered_c {w : World} {l0 l1 l2 : List UInt8} (hT : Tbl w) : Calls Tryz.prog 4 #[.agg #[S l0, S l1, S l2]] w (Ret fun r w' => r = .bool true ∧ Below w.heap.size w w') := by
  obtain ⟨ra, la, na, oa, ma, za⟩ := ordS_tx l0
  obtain ⟨rb, lb, nb, ob, mb, zb⟩ := ordS_tx l1
  obtain ⟨rc, lc, nc, oc, mc, zc⟩ := ordS_tx l2
  generalize ha : ordS l0 = a at *
  generalize hb : ordS l1 = b at *
  generalize hc : ordS l2 = c at *
  refine calls_W (vs := [_]) Tryz.func4 rfl (by kernel_rfl) rfl ?_
  (repeat (first | with_reducible refine W.seq ?_ | with_reducible refine W.region ?_))
  refine Ops.box rfl rfl rfl rfl (fun w1 b1 hM1 => ?_)
  have B1 : Blk w1 b1 #[S l0, S l1, S l2] 33 := hM1.at_
  have hb01 := Mk.bel hM1
  (repeat (first | with_reducible refine W.seq ?_ | with_reducible refine Ops.nil ?_ | refine z_p (kk := ?_)))
  refine W.ordA 99 [(0, 1), (1, 2), (2, 2), (3, 1), (4, 2), (5, 2), (6, 1), (7, 2), (8, 2), (9, 1), (10, 1), (11, 1)] rfl (by kernel_rfl) rfl (by kernel_rfl) (fun _ _ _ h => h) ?_
  refine x_A (i := 0) (kk := fun _ => ?_)
  refine OrdA.call rfl rfl rfl rfl rfl rfl rfl (fun w' hw' => Calls.via hw' (ordS_c (s := l0))) ?_
  refine x_A (i := 1) (kk := fun _ => ?_)
  refine OrdA.call rfl rfl rfl rfl rfl rfl rfl (fun w' hw' => Calls.via hw' (ordS_c (s := l1))) ?_
  refine x_A (i := 2) (kk := fun _ => ?_)
  refine OrdA.call rfl rfl rfl rfl rfl rfl rfl (fun w' hw' => Calls.via hw' (ordS_c (s := l2))) ?_
  rw [ha, hb, hc]
  (repeat (first | refine x_p (kk := ?_)))
  refine OrdA.nil (fun w2 hb12 => ?_)
  have hb02 := Below.via hb01 hb12
  (repeat (first | with_reducible refine W.seq ?_ | with_reducible refine W.region ?_ | refine z_p (kk := ?_)))
  refine Ops.call rfl rfl rfl rfl rfl (Compare_tx ra rb la lb) (fun r w3 hR => ?_)
  obtain ⟨rfl, hb23⟩ := hR
  have hb03 := Below.via hb02 hb23
  (repeat (first | with_reducible refine W.seq ?_ | with_reducible refine Ops.nil ?_ | with_reducible refine W.region ?_ | refine z_p (kk := ?_)))
  refine Ops.call rfl rfl rfl rfl rfl (Compare_tx rb ra lb la) (fun r w4 hR => ?_)
  obtain ⟨rfl, hb34⟩ := hR
  have hb04 := Below.via hb03 hb34
  (repeat (first | with_reducible refine W.seq ?_ | with_reducible refine Ops.nil ?_ | with_reducible refine W.region ?_ | refine z_p (kk := ?_)))
  refine Ops.call rfl rfl rfl rfl rfl (Compare_tx rb rc lb lc) (fun r w5 hR => ?_)
  obtain ⟨rfl, hb45⟩ := hR
  have hb05 := Below.via hb04 hb45
  (repeat (first | with_reducible refine W.seq ?_ | with_reducible refine Ops.nil ?_ | with_reducible refine W.region ?_ | refine z_p (kk := ?_)))
  refine Ops.call rfl rfl rfl rfl rfl (Compare_tx ra rc la lc) (fun r w6 hR => ?_)
  obtain ⟨rfl, hb56⟩ := hR
  have hb06 := Below.via hb05 hb56
  have hX := cmp_rng a b
  have hY := cmp_swap a b
  have hZ := cmp_rng b c
  have hW := cmp_rng a c
  have htr := cmp_trans a b c
  have hd := tx_dec ra rb
  rw [hY]
  generalize cmpO a b = X at *
  generalize cmpO b c = Z at *
  generalize cmpO a c = V at *
  refine Ops.cut (fun ρ w' => ρ = [(3, S (txO a)), (4, S (txO b)), (5, S (txO c)), (6, .int .i64 X), (7, .int .i64 0), (8, .int .i64 (-X)), (9, .int .i64 0), (10, .int .i64 Z), (11, .int .i64 0), (12, .int .i64 V), (13, .int .i64 0)] ∧ w' = w6) ?_ ?_
  · (repeat (first | with_reducible refine Ops.nil ?_ | refine z_p (kk := ?_)))
    exact W.endl ⟨_, ⟨rfl, rfl⟩, (by repeat (first | exact trivial | refine And.intro rfl ?_))⟩
  rintro ρ w6' ⟨rfl, rfl⟩
  refine W.seq ?_
  refine W.cut (fun ρ w' => ρ = [(3, S (txO a)), (4, S (txO b)), (5, S (txO c))] ∧ w' = w6') ?_ ?_
  · (repeat (first | with_reducible refine W.seq ?_ | with_reducible refine W.region ?_ | refine z_p (kk := ?_) | refine z_a (kk := ?_) | refine z_y (kk := ?_) | refine z_E (kk := ?_) | refine z_ev (EV.seq rfl rfl rfl rfl) (kk := ?_) | refine z_h (kk := ?_)))
    by_cases h1 : X ≤ 0
    · by_cases h2 : Z ≤ 0
      · obtain ⟨t1, t2⟩ := htr h1 h2
        by_cases h3 : V = 0
        · have h4 : ¬ X + Z < 0 := fun h => by have := t2 (by omega); omega
          (repeat (first | with_reducible refine Ops.nil ?_ | refine z_p (kk := ?_) | refine z_a (kk := ?_) | refine z_y (kk := ?_) | refine z_h (kk := ?_)))
          refine W.condF rfl (by first | rfl | (simp; done) | (simp; omega)) ?_
          (repeat (first | with_reducible refine W.skip ?_))
          exact W.endl ⟨_, ⟨rfl, rfl⟩, (by repeat (first | exact trivial | refine And.intro rfl ?_))⟩
        · (repeat (first | with_reducible refine Ops.nil ?_ | refine z_p (kk := ?_) | refine z_y (kk := ?_) | refine z_n (kk := ?_) | refine z_g (kk := ?_) | refine z_h (kk := ?_)))
          refine W.condF rfl (by first | rfl | (simp; done) | (simp; omega)) ?_
          (repeat (first | with_reducible refine W.skip ?_))
          exact W.endl ⟨_, ⟨rfl, rfl⟩, (by repeat (first | exact trivial | refine And.intro rfl ?_))⟩
      · (repeat (first | with_reducible refine Ops.nil ?_ | refine z_p (kk := ?_) | refine z_y (kk := ?_) | refine z_n (kk := ?_) | refine z_u (kk := ?_) | refine z_g (kk := ?_) | refine z_h (kk := ?_)))
        refine W.condF rfl (by first | rfl | (simp; done) | (simp; omega)) ?_
        (repeat (first | with_reducible refine W.skip ?_))
        exact W.endl ⟨_, ⟨rfl, rfl⟩, (by repeat (first | exact trivial | refine And.intro rfl ?_))⟩
    · (repeat (first | with_reducible refine Ops.nil ?_ | refine z_p (kk := ?_) | refine z_y (kk := ?_) | refine z_n (kk := ?_) | refine z_u (kk := ?_) | refine z_g (kk := ?_)))
      refine W.condF rfl (by first | rfl | (simp; done) | (simp; omega)) ?_
      (repeat (first | with_reducible refine W.skip ?_))
      exact W.endl ⟨_, ⟨rfl, rfl⟩, (by repeat (first | exact trivial | refine And.intro rfl ?_))⟩
  rintro ρ w6 ⟨rfl, rfl⟩
  clear hd htr hX hY hZ hW
  (repeat (first | with_reducible refine W.seq ?_ | with_reducible refine W.region ?_ | refine z_p (kk := ?_)))
  refine Ops.call rfl rfl rfl rfl rfl (Sum_tx ra rb la lb (hT.below hb06)) (fun r w7 hR => ?_)
  obtain ⟨rfl, hb67⟩ := hR
  have hb07 := Below.via hb06 hb67
  (repeat (first | with_reducible refine W.seq ?_ | with_reducible refine Ops.nil ?_ | with_reducible refine W.region ?_ | refine z_p (kk := ?_)))
  refine Ops.call rfl rfl rfl rfl rfl (Sum_tx rb rc lb lc (hT.below hb07)) (fun r w8 hR => ?_)
  obtain ⟨rfl, hb78⟩ := hR
  have hb08 := Below.via hb07 hb78
  cases hs : addC a b with
  | none =>
    rw [eM_none.1, eM_none.2]
    cases ht : addC b c with
    | none =>
      rw [eM_none.1, eM_none.2]
      (repeat (first | with_reducible refine W.seq ?_ | with_reducible refine Ops.nil ?_ | with_reducible refine W.region ?_ | refine z_p (kk := ?_) | refine z_n (kk := ?_)))
      refine W.condT rfl (by first | rfl | assumption | (simp only [bnf] <;> omega) | (simp only [*, bnf]; done) | fail) ?_
      (repeat (first | with_reducible refine W.seq ?_ | with_reducible refine W.region ?_ | refine z_p (kk := ?_) | refine z_y (kk := ?_)))
      refine Ops.callS rfl rfl rfl rfl rfl (full_c _ _) ?_
      (repeat (first | refine z_p (kk := ?_) | refine z_y (kk := ?_)))
      refine Ops.callS rfl rfl rfl rfl rfl (full_c _ _) ?_
      (repeat (first | refine z_p (kk := ?_) | refine z_y (kk := ?_)))
      refine Ops.call rfl rfl rfl rfl rfl (awake_c (hT.below hb08)) (fun r wz hR => ?_)
      obtain ⟨rfl, hbz⟩ := hR
      (repeat (first | with_reducible refine Ops.nil ?_ | refine z_p (kk := ?_)))
      exact W.fret rfl ⟨rfl, Below.via hb08 hbz⟩
    | some t =>
      rw [eM_some.1, eM_some.2]
      (repeat (first | with_reducible refine W.seq ?_ | with_reducible refine Ops.nil ?_ | with_reducible refine W.region ?_ | refine z_p (kk := ?_) | refine z_n (kk := ?_)))
      refine W.condT rfl (by first | rfl | assumption | (simp only [bnf] <;> omega) | (simp only [*, bnf]; done) | fail) ?_
      (repeat (first | with_reducible refine W.seq ?_ | with_reducible refine W.region ?_ | refine z_p (kk := ?_) | refine z_y (kk := ?_)))
      refine Ops.callS rfl rfl rfl rfl rfl (full_c _ _) ?_
      (repeat (first | refine z_p (kk := ?_) | refine z_y (kk := ?_) | refine z_n (kk := ?_)))
      refine Ops.call rfl rfl rfl rfl rfl (awake_c (hT.below hb08)) (fun r wz hR => ?_)
      obtain ⟨rfl, hbz⟩ := hR
      (repeat (first | with_reducible refine Ops.nil ?_ | refine z_p (kk := ?_)))
      exact W.fret rfl ⟨rfl, Below.via hb08 hbz⟩
  | some s =>
    rw [eM_some.1, eM_some.2]
    cases ht : addC b c with
    | none =>
      rw [eM_none.1, eM_none.2]
      (repeat (first | with_reducible refine W.seq ?_ | with_reducible refine Ops.nil ?_ | with_reducible refine W.region ?_ | refine z_p (kk := ?_) | refine z_y (kk := ?_)))
      refine W.condT rfl (by first | rfl | assumption | (simp only [bnf] <;> omega) | (simp only [*, bnf]; done) | fail) ?_
      (repeat (first | with_reducible refine W.seq ?_ | with_reducible refine W.region ?_ | refine z_p (kk := ?_) | refine z_y (kk := ?_) | refine z_n (kk := ?_)))
      refine Ops.callS rfl rfl rfl rfl rfl (full_c _ _) ?_
      (repeat (first | refine z_p (kk := ?_) | refine z_y (kk := ?_)))
      refine Ops.call rfl rfl rfl rfl rfl (awake_c (hT.below hb08)) (fun r wz hR => ?_)
      obtain ⟨rfl, hbz⟩ := hR
      (repeat (first | with_reducible refine Ops.nil ?_ | refine z_p (kk := ?_)))
      exact W.fret rfl ⟨rfl, Below.via hb08 hbz⟩
    | some t =>
      rw [eM_some.1, eM_some.2]
      obtain ⟨e1, k1⟩ := addC_spec oa ob hs
      obtain ⟨e2, k2⟩ := addC_spec ob oc ht
      have has := addC_assoc na nb nc oa ob oc hs ht
      have rs : rdA (txO s) = some s := okS_rd (by rw [e1]; exact addO_NF na nb) k1
      have rt : rdA (txO t) = some t := okS_rd (by rw [e2]; exact addO_NF nb nc) k2
      (repeat (first | with_reducible refine W.seq ?_ | with_reducible refine Ops.nil ?_ | with_reducible refine W.region ?_ | refine z_p (kk := ?_) | refine z_y (kk := ?_)))
      refine W.condF rfl (by first | rfl | assumption | (simp only [bnf] <;> omega) | (simp only [*, bnf]; done) | fail) ?_
      (repeat (first | with_reducible refine W.seq ?_ | with_reducible refine W.region ?_ | refine z_p (kk := ?_) | with_reducible refine W.skip ?_))
      refine Ops.call rfl rfl rfl rfl rfl (Sum_tx rs rc (tx_bd k1) lc (hT.below hb08)) (fun r w9 hR => ?_)
      obtain ⟨rfl, hb89⟩ := hR
      have hb09 := Below.via hb08 hb89
      (repeat (first | with_reducible refine W.seq ?_ | with_reducible refine Ops.nil ?_ | with_reducible refine W.region ?_ | refine z_p (kk := ?_)))
      refine Ops.call rfl rfl rfl rfl rfl (Sum_tx ra rt la (tx_bd k2) (hT.below hb09)) (fun r w10 hR => ?_)
      obtain ⟨rfl, hb910⟩ := hR
      have hb010 := Below.via hb09 hb910
      rw [has]
      cases hu : addC a t with
      | none =>
        rw [eM_none.1, eM_none.2]
        (repeat (first | with_reducible refine W.seq ?_ | with_reducible refine Ops.nil ?_ | with_reducible refine W.region ?_ | refine z_p (kk := ?_) | refine z_y (kk := ?_) | refine z_ev (EV.seq rfl rfl rfl rfl) (kk := ?_)))
        refine Ops.callS rfl rfl rfl rfl rfl (full_c _ _) ?_
        (repeat (first | refine z_p (kk := ?_) | refine z_y (kk := ?_)))
        refine Ops.call rfl rfl rfl rfl rfl (awake_c (hT.below hb010)) (fun r wz hR => ?_)
        obtain ⟨rfl, hbz⟩ := hR
        (repeat (first | with_reducible refine Ops.nil ?_ | refine z_p (kk := ?_)))
        exact W.fret rfl ⟨rfl, Below.via hb010 hbz⟩
      | some u =>
        rw [eM_some.1, eM_some.2]
        (repeat (first | with_reducible refine W.seq ?_ | with_reducible refine Ops.nil ?_ | with_reducible refine W.region ?_ | refine z_p (kk := ?_) | refine z_y (kk := ?_) | refine z_n (kk := ?_) | refine z_ev (EV.seq rfl rfl rfl rfl) (kk := ?_) | refine z_h (kk := ?_)))
        refine Ops.call rfl rfl rfl rfl rfl (awake_c (hT.below hb010)) (fun r wz hR => ?_)
        obtain ⟨rfl, hbz⟩ := hR
        (repeat (first | with_reducible refine Ops.nil ?_ | refine z_p (kk := ?_)))
        exact W.fret rfl ⟨rfl, Below.via hb010 hbz⟩
end Go.Proofs.YtcmjlmnfdncajaaGreatDoor
namespace Go.Proofs.YtcmjlmnfdncajaaGreatDoor
open Go Go.RowKit Go.Proofs.YtcmjlmnfdncajaaGreatDoor.VW Go.Proofs.YtcmjlmnfdncajaaGreatDoor.TW
attribute [local irreducible] W Ops OrdA VW.Ord OrdX Wi OpsI OrdF
def kindR (s : List UInt8) : Except Int Nat := match rdA s with
  | none => .error 4
  | some a => .ok (kindO a)
def outK : Except Int Nat → Int
  | .ok x => (x : Int)
  | .error _ => 0
theorem Kind1_c {w : World} {b0 b3 : Nat} {s : List UInt8} (hs : s.length ≤ 4294967295) (B0 : Blk w b0 #[S s] 9) (B3 : Blk w b3 #[.int .i64 0] 3) :
    Calls Tryz.prog 74 #[.pointer (some ⟨b0, 0, none⟩), .pointer (some ⟨b3, 0, none⟩)] w
      (RetP (fun _ w' => Kp (fun i => i = b3) w w' ∧ ∃ x, kindR s = .ok x ∧ Blk w' b3 #[.int .i64 (x : Int)] 3) (fun ch w' => ∃ e, ch = trb e ∧ Kp (fun i => i = b3) w w' ∧ kindR s = .error e ∧ Kp (fun _ => False) w w')) := by
  refine calls_WP (vs := [_, _]) Tryz.func74 rfl (by kernel_rfl) rfl ?_
  (repeat (first | with_reducible refine W.region ?_ | refine z_d (kk := ?_)))
  refine Ops.callP rfl rfl rfl rfl rfl (readOrdinal_c hs) (fun va w1 hR => ?_) (fun ch w1 hR => ?_)
  rotate_left
  · obtain ⟨rfl, h1, hb1⟩ := hR
    exact ⟨4, rfl, (kpF hb1).mono (fun _ _ e => e.elim), by unfold kindR; rw [h1], kpF hb1⟩
  obtain ⟨a, ha, hA, hb1⟩ := hR
  have B31 := B3.kp (kpF hb1) (fun e => e)
  skip
  refine Ops.callS rfl rfl rfl rfl rfl (kind_c hA) ?_
  refine Ops.st rfl rfl rfl rfl rfl rfl rfl B31 (by simp) (fun w4 hu => ?_)
  (repeat (first | with_reducible refine Ops.nil ?_))
  refine W.fendP rfl ⟨((kpF hb1).trans hu.kp).mono (fun _ _ e => by rcases e with e | e; exact e.elim; exact e), kindO a, ?_, by simpa using hu.blk⟩
  unfold kindR
  rw [ha]
theorem Kind_c {w : World} {s : List UInt8} (hs : s.length ≤ 4294967295) :
    Calls Tryz.prog 24 #[S s] w (Ret fun r w' => r = .tuple #[.int .i64 (outK (kindR s)), .int .i64 (outE (kindR s))] ∧ Below w.heap.size w w') := by
  refine calls_W (vs := [_]) Tryz.func24 rfl (by kernel_rfl) rfl ?_
  (repeat (first | with_reducible refine W.seq ?_ | with_reducible refine W.region ?_))
  refine Ops.box rfl rfl rfl rfl (fun w1 b0 hM1 => ?_)
  refine Ops.alloc rfl rfl rfl rfl (fun w4 b3 hM4 => ?_)
  have hb14 := Mk.bel hM4
  have hb04 := Below.via (Mk.bel hM1) hb14
  have B0 : Blk w4 b0 #[S s] 9 := Blk.kp (w := w1) (hM1.at_) (kpF hb14) (fun e => e)
  have B3 : Blk w4 b3 #[.int .i64 0] 3 := hM4.at_
  have e3 := hM4.r_eq
  have l3 := B3.lt
  have hw03 := (Mk.bel hM1).size
  (repeat (first | with_reducible refine W.seq ?_ | with_reducible refine Ops.nil ?_ | with_reducible refine W.region ?_ | refine z_p (kk := ?_)))
  refine Ops.call rfl rfl rfl rfl rfl (guard_c (F := 74) (caps := [.pointer (some ⟨b0, 0, none⟩), .pointer (some ⟨b3, 0, none⟩)]) (T := fun i => i = b3) (N := fun _ w' => ∃ x, kindR s = .ok x ∧ Blk w' b3 #[.int .i64 (x : Int)] 3) (E' := fun w1 w' e => kindR s = .error e ∧ Kp (fun _ => False) w1 w') rfl (fun i h => by omega) (fun w5 hlt hb5 => Kind1_c hs (B0.kp (kpF hb5) (fun e => e)) (B3.kp (kpF hb5) (fun e => e)))) (fun r w' hR => ?_)
  obtain ⟨w5, w6, hlt, hb5, k56, k67, hor⟩ := hR
  have hfin : ∃ x e, x = outK (kindR s) ∧ e = outE (kindR s) ∧ r = .int .i64 e ∧ Blk w' b3 #[.int .i64 x] 3 := by
    rcases hor with ⟨rfl, x, h1, h2⟩ | ⟨e, rfl, h1, h2⟩
    · exact ⟨x, 0, by rw [h1]; rfl, by rw [h1]; rfl, rfl, h2.kp k67 (fun h => by omega)⟩
    · exact ⟨0, e, by rw [h1]; rfl, by rw [h1]; rfl, rfl, ((B3.kp (kpF hb5) (fun e => e)).kp h2 (fun e => e)).kp k67 (fun h => by omega)⟩
  obtain ⟨x, e, hx, he, rfl, B3'⟩ := hfin
  have hb0' : Below w.heap.size w w' := Below.put (Below.put (Below.via hb04 hb5) k56 (fun i h => by omega)) k67 (fun i h => by omega)
  have hbww : Below w'.heap.size w' w' := Below.refl _ _
  rw [← hx, ← he]
  (repeat (first | with_reducible refine W.seq ?_ | with_reducible refine Ops.nil ?_ | with_reducible refine W.region ?_ | refine z_p (kk := ?_) | refine z_d (kk := ?_)))
  refine Ops.st rfl rfl rfl rfl rfl rfl rfl B3' (by simp) (fun w7 hu => ?_)
  have B7 : Blk w7 b3 #[.int .i64 x] 3 := by simpa using hu.blk
  (repeat (first | with_reducible refine Ops.nil ?_ | refine z_p (kk := ?_)))
  exact W.fretW (vs := [_, _]) ⟨_, _, rfl, ⟨b3, 0, _, 3, rfl, rfl, B7, rfl⟩, _, _, rfl, rfl, rfl⟩ ⟨rfl, Below.put hb0' hu.kp (fun i h => by omega)⟩
def stepR (s : List UInt8) (n : Int) : Except Int (List UInt8) := match rdA s with
  | none => .error 4
  | some a => if 0 ≤ n ∧ n ≤ 1000 then (if kindO a = 0 then .error 6 else if bigT (stepO a n.toNat) = true then .error 5 else .ok (txO (stepO a n.toNat))) else .error 2
set_option maxHeartbeats 2000000 in
theorem Step1_c {w : World} {b0 b1 b3 : Nat} {s : List UInt8} {n : Int} (hs : s.length ≤ 4294967295) (hT : Tbl w) (B0 : Blk w b0 #[S s] 9) (B1 : Blk w b1 #[.int .i64 n] 3) (B3 : Blk w b3 #[S []] 9) :
    Calls Tryz.prog 76 #[.pointer (some ⟨b0, 0, none⟩), .pointer (some ⟨b1, 0, none⟩), .pointer (some ⟨b3, 0, none⟩)] w
      (RetP (fun _ w' => Kp (fun i => i = b3) w w' ∧ ∃ x, stepR s n = .ok x ∧ Blk w' b3 #[S x] 9) (fun ch w' => ∃ e, ch = trb e ∧ Kp (fun i => i = b3) w w' ∧ stepR s n = .error e ∧ Kp (fun _ => False) w w')) := by
  refine calls_WP (vs := [_, _, _]) Tryz.func76 rfl (by kernel_rfl) rfl ?_
  (repeat (first | with_reducible refine W.seq ?_ | with_reducible refine W.region ?_ | refine z_d (kk := ?_)))
  refine Ops.callP rfl rfl rfl rfl rfl (readOrdinal_c hs) (fun va w1 hR => ?_) (fun ch w1 hR => ?_)
  rotate_left
  · obtain ⟨rfl, h1, hb1⟩ := hR
    exact ⟨4, rfl, (kpF hb1).mono (fun _ _ e => e.elim), by unfold stepR; rw [h1], kpF hb1⟩
  obtain ⟨a, ha, hA, hb1⟩ := hR
  obtain ⟨na, sa, za⟩ := rdA_spec ha
  have B11 := B1.kp (kpF hb1) (fun e => e)
  have B31 := B3.kp (kpF hb1) (fun e => e)
  have hdef : stepR s n = if 0 ≤ n ∧ n ≤ 1000 then (if kindO a = 0 then .error 6 else if bigT (stepO a n.toNat) = true then .error 5 else .ok (txO (stepO a n.toNat))) else .error 2 := by unfold stepR; rw [ha]
  have hb11 : Below w1.heap.size w1 w1 := Below.refl _ _
  (repeat (first | with_reducible refine W.seq ?_ | with_reducible refine Ops.nil ?_ | with_reducible refine W.region ?_ | refine z_p (kk := ?_) | refine z_d (kk := ?_)))
  refine Ops.callS rfl rfl rfl rfl rfl (within_c _ _ _ _) ?_
  skip
  refine Ops.callP rfl rfl rfl rfl rfl (demand_c _ _ _) (fun r w2 hR => ?_) (fun ch w2 hR => ?_)
  rotate_left
  · obtain ⟨hb, rfl, rfl⟩ := hR
    have h2 := of_decide_eq_false hb
    exact ⟨2, rfl, (kpF hb1).mono (fun _ _ e => e.elim), by rw [hdef, if_neg h2], kpF hb1⟩
  obtain ⟨hb, hw⟩ := hR
  subst w2
  have h2 := of_decide_eq_true hb
  clear hb
  rw [if_pos h2] at hdef
  obtain ⟨m, rfl⟩ : ∃ m : Nat, n = (m : Int) := ⟨n.toNat, by omega⟩
  rw [Int.toNat_natCast] at hdef
  obtain ⟨l, hRl, hAl⟩ := id hA
  have hll := hAl.len
  obtain ⟨A, c, rfl⟩ := hRl.sh
  (repeat (first | with_reducible refine W.seq ?_ | with_reducible refine Ops.nil ?_ | with_reducible refine W.region ?_ | refine z_p (kk := ?_) | refine z_l (kk := ?_)))
  refine Ops.callP rfl rfl rfl rfl rfl (demand_c _ _ _) (fun r w2 hR => ?_) (fun ch w2 hR => ?_)
  rotate_left
  · obtain ⟨hb, rfl, rfl⟩ := hR
    have h3 := of_decide_eq_false hb
    exact ⟨6, rfl, (kpF hb1).mono (fun _ _ e => e.elim), by rw [hdef, if_pos (kind_zero.2 (lenO_zero.1 (by omega)))], kpF hb1⟩
  obtain ⟨hb, hw⟩ := hR
  subst w2
  have h3 := of_decide_eq_true hb
  clear hb
  have hne : a ≠ .nil := fun e => by have := lenO_zero.2 e; omega
  rw [if_neg (fun h => hne (kind_zero.1 h))] at hdef
  have hmo := small_most sa
  have hsm := step_most a m
  have hss := step_sz a m
  have hsq : szO a * (szO a + 1) ≤ 60 * 61 := Nat.mul_le_mul za (by omega)
  (repeat (first | with_reducible refine Ops.nil ?_ | with_reducible refine W.region ?_ | refine z_p (kk := ?_) | refine z_d (kk := ?_)))
  refine Ops.call rfl rfl rfl rfl rfl (step_c _ (S' := fun i => i < w.heap.size) (Nat.le_refl _) (by omega) hne (by omega) (by omega) (fun i hi => by have := hb1.size; omega) hA) (fun v2 w2 hR => ?_)
  obtain ⟨hM2, hb2⟩ := hR
  have hb02 := Below.via hb1 hb2
  skip
  refine Ops.callP rfl rfl rfl rfl rfl (checked_c hM2 (by omega)) (fun vc w3 hR => ?_) (fun ch w3 hR => ?_)
  rotate_left
  · obtain ⟨rfl, hbig, hb3⟩ := hR
    have k03 : Kp (fun _ => False) w w3 := kpF (Below.via hb02 hb3)
    exact ⟨5, rfl, k03.mono (fun _ _ e => e.elim), by rw [hdef, if_pos hbig], k03⟩
  obtain ⟨rfl, hbig, hb3⟩ := hR
  have hb03 := Below.via hb02 hb3
  refine Ops.call rfl rfl rfl rfl rfl (text_c _ (Nat.le_refl _) (by omega) (by omega) (hT.below hb03) (hM2.below hb3)) (fun vt w4 hR => ?_)
  obtain ⟨rfl, hb4⟩ := hR
  have hb04 := Below.via hb03 hb4
  have B34 := B3.kp (kpF hb04) (fun e => e)
  refine Ops.st rfl rfl rfl rfl rfl rfl rfl B34 (by simp) (fun w5 hu => ?_)
  (repeat (first | with_reducible refine Ops.nil ?_))
  refine W.fendP rfl ⟨((kpF hb04).trans hu.kp).mono (fun _ _ e => by rcases e with e | e; exact e.elim; exact e), txO (stepO a m), by rw [hdef, if_neg (by rw [hbig]; simp)], by simpa using hu.blk⟩
theorem Step_c {w : World} {s : List UInt8} {n : Int} (hs : s.length ≤ 4294967295) (hT : Tbl w) :
    Calls Tryz.prog 25 #[S s, .int .i64 n] w (Ret fun r w' => r = .tuple #[S (outS (stepR s n)), .int .i64 (outE (stepR s n))] ∧ Below w.heap.size w w') := by
  refine calls_W (vs := [_, _]) Tryz.func25 rfl (by kernel_rfl) rfl ?_
  (repeat (first | with_reducible refine W.seq ?_ | with_reducible refine W.region ?_))
  refine Ops.box rfl rfl rfl rfl (fun w1 b0 hM1 => ?_)
  refine Ops.box rfl rfl rfl rfl (fun w2 b1 hM2 => ?_)
  refine Ops.alloc rfl rfl rfl rfl (fun w4 b3 hM4 => ?_)
  have hb24 := Mk.bel hM4
  have hb14 := Below.via (Mk.bel hM2) hb24
  have hb04 := Below.via (Mk.bel hM1) hb14
  have B0 : Blk w4 b0 #[S s] 9 := Blk.kp (w := w1) (hM1.at_) (kpF hb14) (fun e => e)
  have B1 : Blk w4 b1 #[.int .i64 n] 3 := Blk.kp (w := w2) (hM2.at_) (kpF hb24) (fun e => e)
  have B3 : Blk w4 b3 #[S []] 9 := hM4.at_
  have e3 := hM4.r_eq
  have s1 := hM1.size
  have s2 := hM2.size
  have s4 := hM4.size
  (repeat (first | with_reducible refine W.seq ?_ | with_reducible refine Ops.nil ?_ | with_reducible refine W.region ?_ | refine z_p (kk := ?_)))
  refine Ops.call rfl rfl rfl rfl rfl (guard_c (F := 76) (caps := [.pointer (some ⟨b0, 0, none⟩), .pointer (some ⟨b1, 0, none⟩), .pointer (some ⟨b3, 0, none⟩)]) (T := fun i => i = b3) (N := fun w1 w' => ∃ x, stepR s n = .ok x ∧ Blk w' b3 #[S x] 9) (E' := fun w1 w' e => stepR s n = .error e ∧ Kp (fun _ => False) w1 w') rfl (fun i h => by omega) (fun w5 hlt hb5 => Step1_c hs (hT.below (Below.via hb04 hb5)) (B0.kp (kpF hb5) (fun e => e)) (B1.kp (kpF hb5) (fun e => e)) (B3.kp (kpF hb5) (fun e => e)))) (fun r w' hR => ?_)
  obtain ⟨w5, w6, hlt, hb5, k56, k67, hor⟩ := hR
  have hfin : ∃ x e, x = outS (stepR s n) ∧ e = outE (stepR s n) ∧ r = .int .i64 e ∧ Blk w' b3 #[S x] 9 := by
    rcases hor with ⟨rfl, x, h1, h2⟩ | ⟨e, rfl, h1, h2⟩
    · exact ⟨x, 0, by rw [h1]; rfl, by rw [h1]; rfl, rfl, h2.kp k67 (fun h => by omega)⟩
    · exact ⟨[], e, by rw [h1]; rfl, by rw [h1]; rfl, rfl, ((B3.kp (kpF hb5) (fun e => e)).kp h2 (fun e => e)).kp k67 (fun h => by omega)⟩
  obtain ⟨x, e, hx, he, rfl, B3'⟩ := hfin
  have hb0' : Below w.heap.size w w' := Below.put (Below.put (Below.via hb04 hb5) k56 (fun i h => by omega)) k67 (fun i h => by omega)
  have hbww : Below w'.heap.size w' w' := Below.refl _ _
  rw [← hx, ← he]
  (repeat (first | with_reducible refine W.seq ?_ | with_reducible refine Ops.nil ?_ | with_reducible refine W.region ?_ | refine z_p (kk := ?_) | refine z_d (kk := ?_)))
  refine Ops.st rfl rfl rfl rfl rfl rfl rfl B3' (by simp) (fun w7 hu => ?_)
  have B7 : Blk w7 b3 #[S x] 9 := by simpa using hu.blk
  (repeat (first | with_reducible refine Ops.nil ?_ | refine z_p (kk := ?_)))
  exact W.fretW (vs := [_, _]) ⟨_, _, rfl, ⟨b3, 0, _, 9, rfl, rfl, B7, rfl⟩, _, _, rfl, rfl, rfl⟩ ⟨rfl, Below.put hb0' hu.kp (fun i h => by omega)⟩
end Go.Proofs.YtcmjlmnfdncajaaGreatDoor
namespace Go.Proofs.YtcmjlmnfdncajaaGreatDoor
open Go Go.RowKit Go.Proofs.YtcmjlmnfdncajaaGreatDoor.VW Go.Proofs.YtcmjlmnfdncajaaGreatDoor.TW
attribute [local irreducible] W Ops OrdA VW.Ord OrdX Wi OpsI OrdF
theorem desR_tx {o : Od} {n : Nat} (h : rdA (txO o) = some o) (hn : n ≤ 1000) (hm : mostO o ≤ 1000) : desR (txO o) (n : Int) = match desW bigO 300 o n with
    | none => .error 5
    | some l => .ok l := by
  unfold desR
  rw [h]
  simp only
  rw [if_pos (by omega), Int.toNat_natCast, des_eq 300 o n hm]
  all_goals (cases desW bigO 300 o n <;> rfl)
/-- A list of the call's own, of which but the length is known. -/
def LL {α : Type} (e : Nat) (enc : α → Value) (N : Nat) (w : World) (v : Value) (n : Nat) : Prop := ∃ l : List α, l.length = n ∧ LO e enc N w v l
theorem LL.kp {α : Type} {e : Nat} {enc : α → Value} {N : Nat} {S : Nat → Prop} {w w' : World} {v : Value} {n : Nat} (h : LL (α := α) e enc N w v n) (k : Kp S w w') (hs : ∀ i, v.ownBlock = some i → ¬ S i) : LL (α := α) e enc N w' v n := by
  obtain ⟨l, h1, h2⟩ := h
  exact ⟨l, h1, h2.kp k hs⟩
theorem LL.sh {α : Type} {e : Nat} {enc : α → Value} {N : Nat} {w : World} {v : Value} {n : Nat} (h : LL (α := α) e enc N w v n) : ∃ A c, v = .slice A n c := by
  obtain ⟨l, h1, h2⟩ := h
  subst h1
  exact h2.sh
theorem LL.wr {α : Type} {e : Nat} {enc : α → Value} {N n d1 t t' i : Nat} {w : World} {v : Value} {P : Program} [Tab P] {nn : Nat} {ds : List Deferred} {Φ : Post} {k : List It} {ρ : E} {all : Array Oper} {l : List Oper} {o1 o2 : Oper} {x y z : Operand} {u : α}
    (h : LL (α := α) e enc N w v n) (hN : N ≤ w.heap.size) (ho : o1.op = .indexAddr t x y) (hd1 : o1.dst = some d1) (hg1 : o1.guard = none) (ho2 : o2.op = .store t' (.tmp d1) z) (hd2 : o2.dst = none) (hg2 : o2.guard = none)
    (ht : tyD P t = some (.slice e)) (hs : tyS P e = some 1) (hs' : tyS P t' = some 1) (hx : ev ρ x = some v) (hy : ev ρ y = some (.int .i64 (i : Int))) (hz : ev ρ z = some (enc u)) (hzd : z ≠ .tmp d1) (h1c : (enc u).oneCell' = true) (h1 : i < n)
    (hk : ∀ w' p, LL (α := α) e enc N w' v n → Kp (fun b => v.ownBlock = some b) w w' → w'.heap.size = w.heap.size → Ops none P nn ds all k Φ l ((d1, p) :: ρ) w') : Ops none P nn ds all k Φ (o1 :: o2 :: l) ρ w := by
  obtain ⟨os, h2, h3⟩ := h
  exact Ops.wrO (u := u) (i := i) ho hd1 hg1 ho2 hd2 hg2 ht hs hs' hx hy hz hzd h1c (h3.base hN) (by omega) (fun w' p hO k1 hsz => hk w' p ⟨os.set i u, by simp [h2], LO.put hO hN⟩ k1 hsz)
set_option maxHeartbeats 16000000 in
theorem own_c {w : World} {m : Int} {l : List UInt8} (hT : Tbl w) (hl : l.length ≤ 9223372036854775807) : Calls Tryz.prog 3 #[S l, .int .i64 m] w (Ret fun r w' => r = .bool true ∧ Below w.heap.size w w') := by
  refine calls_W (vs := [_, _]) Tryz.func3 rfl (by kernel_rfl) rfl ?_
  obtain ⟨m0, hm, hm1⟩ := modI_ex m (n := 1000) (by omega)
  obtain ⟨ro, lo, no, oo, mo, zo⟩ := ordS_tx l
  (repeat (first | with_reducible refine W.seq ?_ | with_reducible refine Ops.nil ?_ | with_reducible refine W.region ?_ | refine z_p (kk := ?_)))
  refine Ops.call rfl rfl rfl rfl rfl (ordS_c (s := l)) (fun r w1 hR => ?_)
  obtain ⟨rfl, hb1⟩ := hR
  generalize ho : ordS l = o at *
  (repeat (first | with_reducible refine W.seq ?_ | with_reducible refine Ops.nil ?_ | with_reducible refine W.region ?_ | refine z_p (kk := ?_)))
  refine Ops.callS rfl rfl rfl rfl rfl (mod_c m 1000 _ (by omega) (by omega)) ?_
  rw [hm]
  (repeat (first | with_reducible refine W.seq ?_ | with_reducible refine Ops.nil ?_ | with_reducible refine W.region ?_ | refine z_p (kk := ?_)))
  refine Ops.call rfl rfl rfl rfl rfl (Descent_c (s := txO o) (n := 2) lo (hT.below hb1)) (fun r w2 hR => ?_)
  obtain ⟨v1, rfl, hO1, hb2⟩ := hR
  have hb02 := Below.via hb1 hb2
  (repeat (first | with_reducible refine W.seq ?_ | with_reducible refine Ops.nil ?_ | with_reducible refine W.region ?_ | refine z_p (kk := ?_)))
  refine Ops.call rfl rfl rfl rfl rfl (Goodstein_c (m := (m0 : Int)) (steps := 5) (hT.below hb02)) (fun r w3 hR => ?_)
  obtain ⟨v2, v3, rfl, hO2, hO3, hne, hb3⟩ := hR
  have hb03 := Below.via hb02 hb3
  have hD := desR_tx (n := 2) ro (by omega) oo.1
  rw [show ((2 : Nat) : Int) = 2 from rfl] at hD
  have hG : goodR (m0 : Int) 5 = match goodL 5 2 m0 with
      | none => .error 5
      | some q => .ok q := by
    unfold goodR
    rw [if_pos (by omega), Int.toNat_natCast, show (5 : Int).toNat = 5 from rfl]
    all_goals (cases goodL 5 2 m0 <;> rfl)
  generalize hd : desR (txO o) 2 = D at *
  generalize hg : goodR (m0 : Int) 5 = G at *
  have hO1' := hO1.below hb3
  have s1 := hb1.size
  have s2 := hb2.size
  have s3 := hb3.size
  have hlt1 : ∀ i, v1.ownBlock = some i → i < w2.heap.size := fun i hi => (hO1.own.lt i hi).2
  have hge1 := hO1.ge
  have hge2 := hO2.ge
  have hge3 := hO3.ge
  have hL1 : LL 9 S w1.heap.size w3 v1 ((outL D).map txO).length := ⟨_, rfl, hO1'⟩
  have hL2 : LL 3 (Value.int .i64) w2.heap.size w3 v2 (intL (outG G).1).length := ⟨_, rfl, hO2⟩
  have hL3 : LL 9 S w2.heap.size w3 v3 ((outG G).2.map txO).length := ⟨_, rfl, hO3⟩
  have hn1 : ((outL D).map txO).length ≤ 1000000 := by
    cases hx : desW bigO 300 o 2 with
    | none => rw [hx] at hD; rw [hD]; simp [outL]
    | some q => rw [hx] at hD; rw [hD]; have := (desW_spec hx).le; simp [outL]; omega
  have hgl : (intL (outG G).1).length ≤ 1000000 ∧ ((outG G).2.map txO).length ≤ 1000000 := by
    cases hx : goodL 5 2 m0 with
    | none => rw [hx] at hG; rw [hG]; simp [outG, intL]
    | some q =>
      rw [hx] at hG; rw [hG]
      have h1 := (goodL_spec _ _ _ hx).le
      have h2 := (goodL_spec _ _ _ hx).lo
      simp [outG, intL]; omega
  obtain ⟨hn2, hn3⟩ := hgl
  clear hO1 hO1' hO2 hO3
  generalize hq1 : ((outL D).map txO).length = k1 at *
  generalize hq2 : (intL (outG G).1).length = k2 at *
  generalize hq3 : ((outG G).2.map txO).length = k3 at *
  obtain ⟨A1, c1, hv1⟩ := hL1.sh
  obtain ⟨A2, c2, hv2⟩ := hL2.sh
  obtain ⟨A3, c3, hv3⟩ := hL3.sh
  (repeat (first | with_reducible refine W.seq ?_ | with_reducible refine Ops.nil ?_ | with_reducible refine W.region ?_ | refine z_p (kk := ?_) | with_reducible refine W.block ?_))
  refine W.loop (fun z ρ wi => ∃ i : Nat, z = k1 - i ∧ i ≤ k1 ∧ ρ = [(1, .int .i64 (m0 : Int)), (5, S (txO o)), (6, v1), (7, .int .i64 (outE D)), (8, v2), (9, v3), (10, .int .i64 (outE G)), (11, .int .i64 (i : Int))] ∧ Below w.heap.size w wi ∧ w3.heap.size ≤ wi.heap.size ∧ LL 9 S w1.heap.size wi v1 k1 ∧ LL 3 (Value.int .i64) w2.heap.size wi v2 k2 ∧ LL 9 S w2.heap.size wi v3 k3)
    ⟨_, _, ⟨0, rfl, Nat.zero_le _, rfl, hb03, Nat.le_refl _, hL1, hL2, hL3⟩, (by repeat (first | exact trivial | refine And.intro rfl ?_))⟩ ?_
  clear hL1 hL2 hL3
  rintro z ρ wi ⟨i, rfl, hi, rfl, hbi, hsi, hL1, hL2, hL3⟩
  rw [hv1]
  by_cases hik : i < k1
  · (repeat (first | with_reducible refine W.seq ?_ | with_reducible refine Ops.nil ?_ | with_reducible refine W.region ?_ | refine z_p (kk := ?_) | refine z_l (kk := ?_)))
    refine W.condT rfl (by first | rfl | assumption | (simp only [bnf] <;> omega) | (simp only [*, bnf]; done) | fail) ?_
    (repeat (first | with_reducible refine W.seq ?_ | with_reducible refine W.region ?_ | refine z_p (kk := ?_) | with_reducible refine W.skip ?_ | with_reducible refine W.block ?_))
    rw [← hv1]
    refine LL.wr (u := [120]) hL1 (by omega) rfl rfl rfl rfl rfl rfl rfl rfl rfl rfl rfl rfl (by intro h; cases h) rfl hik (fun w' p hL1' kk hsz => ?_)
    (repeat (first | with_reducible refine Ops.nil ?_ | with_reducible refine W.region ?_ | refine z_p (kk := ?_) | refine z_a (kk := ?_) | with_reducible refine W.endb ?_))
    exact W.endl ⟨_, _, ⟨⟨i + 1, rfl, by omega, rfl, Below.put hbi kk (fun j hj => by have := hge1 j hj; omega), by omega, hL1', hL2.kp kk (fun j hj e => by have := hlt1 j e; have := hge2 j hj; omega), hL3.kp kk (fun j hj e => by have := hlt1 j e; have := hge3 j hj; omega)⟩, by omega⟩, (by repeat (first | exact trivial | refine And.intro rfl ?_))⟩
  have hik' : i = k1 := by omega
  subst hik'
  (repeat (first | with_reducible refine W.seq ?_ | with_reducible refine Ops.nil ?_ | with_reducible refine W.region ?_ | refine z_p (kk := ?_) | refine z_l (kk := ?_)))
  refine W.condF rfl (by first | rfl | assumption | (simp only [bnf] <;> omega) | (simp only [*, bnf]; done) | fail) ?_
  (repeat (first | with_reducible refine W.seq ?_ | with_reducible refine Ops.nil ?_ | with_reducible refine W.region ?_ | refine z_p (kk := ?_) | with_reducible refine W.block ?_ | refine W.exit rfl ?_))
  rw [← hv1]
  refine W.loop (fun z ρ wi => ∃ j : Nat, z = k2 - j ∧ j ≤ k2 ∧ ρ = [(1, .int .i64 (m0 : Int)), (5, S (txO o)), (6, v1), (7, .int .i64 (outE D)), (8, v2), (9, v3), (10, .int .i64 (outE G)), (12, .int .i64 (j : Int))] ∧ Below w.heap.size w wi ∧ w3.heap.size ≤ wi.heap.size ∧ LL 3 (Value.int .i64) w2.heap.size wi v2 k2 ∧ LL 9 S w2.heap.size wi v3 k3)
    ⟨_, _, ⟨0, rfl, Nat.zero_le _, rfl, hbi, hsi, hL2, hL3⟩, (by repeat (first | exact trivial | refine And.intro rfl ?_))⟩ ?_
  clear hL1 hL2 hL3 hbi hsi
  rintro z ρ wj ⟨j, rfl, hj, rfl, hbj, hsj, hL2, hL3⟩
  rw [hv2]
  by_cases hjk : j < k2
  · (repeat (first | with_reducible refine W.seq ?_ | with_reducible refine Ops.nil ?_ | with_reducible refine W.region ?_ | refine z_p (kk := ?_) | refine z_l (kk := ?_)))
    refine W.condT rfl (by first | rfl | assumption | (simp only [bnf] <;> omega) | (simp only [*, bnf]; done) | fail) ?_
    (repeat (first | with_reducible refine W.seq ?_ | with_reducible refine W.region ?_ | refine z_p (kk := ?_) | with_reducible refine W.skip ?_ | with_reducible refine W.block ?_))
    rw [← hv2]
    refine LL.wr (u := (-7 : Int)) hL2 (by omega) rfl rfl rfl rfl rfl rfl rfl rfl rfl rfl rfl rfl (by intro h; cases h) rfl hjk (fun w' p hL2' kk hsz => ?_)
    (repeat (first | with_reducible refine Ops.nil ?_ | with_reducible refine W.region ?_ | refine z_p (kk := ?_) | refine z_a (kk := ?_) | with_reducible refine W.endb ?_))
    exact W.endl ⟨_, _, ⟨⟨j + 1, rfl, by omega, rfl, Below.put hbj kk (fun q hq => by have := hge2 q hq; omega), by omega, hL2', hL3.kp kk (fun q hq e => hne q e hq)⟩, by omega⟩, (by repeat (first | exact trivial | refine And.intro rfl ?_))⟩
  have hjk' : j = k2 := by omega
  subst hjk'
  (repeat (first | with_reducible refine W.seq ?_ | with_reducible refine Ops.nil ?_ | with_reducible refine W.region ?_ | refine z_p (kk := ?_) | refine z_l (kk := ?_)))
  refine W.condF rfl (by first | rfl | assumption | (simp only [bnf] <;> omega) | (simp only [*, bnf]; done) | fail) ?_
  (repeat (first | with_reducible refine W.seq ?_ | with_reducible refine Ops.nil ?_ | with_reducible refine W.region ?_ | refine z_p (kk := ?_) | with_reducible refine W.block ?_ | refine W.exit rfl ?_))
  rw [← hv2]
  refine W.loop (fun z ρ wi => ∃ q : Nat, z = k3 - q ∧ q ≤ k3 ∧ ρ = [(1, .int .i64 (m0 : Int)), (5, S (txO o)), (6, v1), (7, .int .i64 (outE D)), (8, v2), (9, v3), (10, .int .i64 (outE G)), (13, .int .i64 (q : Int))] ∧ Below w.heap.size w wi ∧ w3.heap.size ≤ wi.heap.size ∧ LL 9 S w2.heap.size wi v3 k3)
    ⟨_, _, ⟨0, rfl, Nat.zero_le _, rfl, hbj, hsj, hL3⟩, (by repeat (first | exact trivial | refine And.intro rfl ?_))⟩ ?_
  clear hL2 hL3 hbj hsj
  rintro z ρ wq ⟨q, rfl, hq, rfl, hbq, hsq, hL3⟩
  rw [hv3]
  by_cases hqk : q < k3
  · (repeat (first | with_reducible refine W.seq ?_ | with_reducible refine Ops.nil ?_ | with_reducible refine W.region ?_ | refine z_p (kk := ?_) | refine z_l (kk := ?_)))
    refine W.condT rfl (by first | rfl | assumption | (simp only [bnf] <;> omega) | (simp only [*, bnf]; done) | fail) ?_
    (repeat (first | with_reducible refine W.seq ?_ | with_reducible refine W.region ?_ | refine z_p (kk := ?_) | with_reducible refine W.skip ?_ | with_reducible refine W.block ?_))
    rw [← hv3]
    refine LL.wr (u := [120]) hL3 (by omega) rfl rfl rfl rfl rfl rfl rfl rfl rfl rfl rfl rfl (by intro h; cases h) rfl hqk (fun w' p hL3' kk hsz => ?_)
    (repeat (first | with_reducible refine Ops.nil ?_ | with_reducible refine W.region ?_ | refine z_p (kk := ?_) | refine z_a (kk := ?_) | with_reducible refine W.endb ?_))
    exact W.endl ⟨_, _, ⟨⟨q + 1, rfl, by omega, rfl, Below.put hbq kk (fun x hx => by have := hge3 x hx; omega), by omega, hL3'⟩, by omega⟩, (by repeat (first | exact trivial | refine And.intro rfl ?_))⟩
  have hqk' : q = k3 := by omega
  subst hqk'
  clear hL3
  (repeat (first | with_reducible refine W.seq ?_ | with_reducible refine Ops.nil ?_ | with_reducible refine W.region ?_ | refine z_p (kk := ?_) | refine z_l (kk := ?_)))
  refine W.condF rfl (by first | rfl | assumption | (simp only [bnf] <;> omega) | (simp only [*, bnf]; done) | fail) ?_
  (repeat (first | with_reducible refine W.seq ?_ | with_reducible refine W.region ?_ | refine z_p (kk := ?_) | refine W.exit rfl ?_))
  have hDD : outE D = 5 ∨ (outE D = 0 ∧ 1 ≤ ((outL D).map txO).length ∧ ((outL D).map txO).getD 0 [] = txO o) := by
    cases hx : desW bigO 300 o 2 with
    | none => rw [hx] at hD; rw [hD]; exact .inl rfl
    | some ls =>
      rw [hx] at hD; rw [hD]
      have h1 := desW_spec hx
      have h2 := h1.pos
      refine .inr ⟨rfl, by simpa [outL] using h2, ?_⟩
      show (ls.map txO).getD 0 [] = _
      rw [txL_get (by omega), h1.hd]
  have hGG : outE G = 5 ∨ (outE G = 0 ∧ 1 ≤ (intL (outG G).1).length ∧ (intL (outG G).1).getD 0 0 = (m0 : Int)) := by
    cases hx : goodL 5 2 m0 with
    | none => rw [hx] at hG; rw [hG]; exact .inl rfl
    | some q =>
      rw [hx] at hG; rw [hG]
      have h1 := goodL_spec _ _ _ hx
      have h2 := h1.pos
      refine .inr ⟨rfl, by simpa [outG, intL] using h2, ?_⟩
      show (intL q.1).getD 0 0 = _
      rw [intL_get, h1.hd]
  rw [hq1] at hDD
  rw [hq2] at hGG
  refine Ops.call rfl rfl rfl rfl rfl (Descent_c (s := txO o) (n := 2) lo (hT.below hbq)) (fun r w4 hR => ?_)
  obtain ⟨v4, rfl, hO4, hb4⟩ := hR
  have hb04 := Below.via hbq hb4
  rw [hd] at hO4 ⊢
  (repeat (first | with_reducible refine W.seq ?_ | with_reducible refine Ops.nil ?_ | with_reducible refine W.region ?_ | refine z_p (kk := ?_)))
  refine Ops.call rfl rfl rfl rfl rfl (Goodstein_c (m := (m0 : Int)) (steps := 5) (hT.below hb04)) (fun r w5 hR => ?_)
  obtain ⟨v5, v6, rfl, hO5, hO6, hne5, hb5⟩ := hR
  have hb05 := Below.via hb04 hb5
  rw [hg] at hO5 hO6 ⊢
  have t4 := hb04.size
  have t5 := hb05.size
  have hsl4 : SlT w5 v4 ((outL D).map txO) := ((hO4.below hb5).base (by have := hb4.size; have := hb5.size; omega)).sl (z := ([] : List UInt8))
  have hsl5 : SlI w5 v5 (intL (outG G).1) := (hO5.base hb5.size).sl (z := (0 : Int))
  obtain ⟨A4, c4, hv4⟩ := hO4.sh
  obtain ⟨A5, c5, hv5⟩ := hO5.sh
  obtain ⟨A6, c6, hv6⟩ := hO6.sh
  rw [hq1] at hv4
  rw [hq2] at hv5
  rw [hq3] at hv6
  subst hv4 hv5 hv6
  rw [hv1, hv2]
  generalize outE D = eD at *
  generalize outE G = eG at *
  generalize (outL D).map txO = LD at *
  generalize intL (outG G).1 = LG at *
  have hb55 : Below w5.heap.size w5 w5 := Below.refl _ _
  refine Ops.cut (fun ρ w' => ρ = [(1, .int .i64 (m0 : Int)), (5, S (txO o)), (6, .slice A1 i c1), (7, .int .i64 eD), (8, .slice A2 j c2), (9, .slice A3 q c3), (10, .int .i64 eG), (14, .slice A4 i c4), (15, .int .i64 eD), (16, .slice A5 j c5), (17, .slice A6 q c6), (18, .int .i64 eG)] ∧ w' = w5) ?_ ?_
  · (repeat (first | with_reducible refine Ops.nil ?_ | refine z_p (kk := ?_)))
    exact W.endl ⟨_, ⟨rfl, rfl⟩, (by repeat (first | exact trivial | refine And.intro rfl ?_))⟩
  rintro ρ w5' ⟨rfl, rfl⟩
  refine W.seq ?_
  refine W.cut (fun ρ w' => w' = w5') ?_ ?_
  · rcases hDD with rfl | ⟨rfl, h1, h2⟩ <;> rcases hGG with rfl | ⟨rfl, h3, h4⟩
    all_goals (
      try have hdo : (!decide (LD.getD 0 [] = txO o)) = false := by rw [h2]; simp
      try have hmm : (LG.getD (Int.toNat 0) 0 != (m0 : Int)) = false := by rw [show Int.toNat 0 = 0 from rfl, h4]; simp
      (repeat (first | with_reducible refine W.seq ?_ | with_reducible refine Ops.nil ?_ | with_reducible refine W.region ?_ | refine z_p (kk := ?_) | refine z_y (kk := ?_) | refine z_n (kk := ?_) | refine z_u (kk := ?_) | refine z_l (kk := ?_) | refine z_K (kk := fun _ => ?_) | refine z_TL (kk := fun _ => ?_) | refine z_ev (EV.sne rfl rfl rfl rfl) (kk := ?_) | refine z_h (kk := ?_)))
      refine W.condF rfl (by first | rfl | assumption | (simp; done)) ?_
      (repeat (first | with_reducible refine W.skip ?_))
      exact W.endl ⟨[], rfl, trivial⟩)
  rintro ρ w5 rfl
  (repeat (first | with_reducible refine W.seq ?_ | with_reducible refine W.region ?_))
  refine Ops.call rfl rfl rfl rfl rfl (awake_c (hT.below hb05)) (fun r wz hR => ?_)
  obtain ⟨rfl, hbz⟩ := hR
  (repeat (first | with_reducible refine Ops.nil ?_ | refine z_p (kk := ?_)))
  exact W.fret rfl ⟨rfl, Below.via hb05 hbz⟩
end Go.Proofs.YtcmjlmnfdncajaaGreatDoor
namespace Go.Proofs.YtcmjlmnfdncajaaGreatDoor
open Go Go.RowKit Go.Proofs.YtcmjlmnfdncajaaGreatDoor.VW Go.Proofs.YtcmjlmnfdncajaaGreatDoor.TW
attribute [local irreducible] W Ops OrdA VW.Ord OrdX Wi OpsI OrdF
theorem Kind_txF {w : World} {a : Od} (ha : rdA (txO a) = some a) (la : (txO a).length ≤ 4294967295) : Calls Tryz.prog 24 #[S (txO a)] w (Ret fun r w' => r = .tuple #[.int .i64 (kindO a : Int), .int .i64 0] ∧ Below w.heap.size w w') := by
  have h' := Kind_c (w := w) la
  rw [show kindR (txO a) = .ok (kindO a) by unfold kindR; rw [ha]] at h'
  exact h'
theorem Step_tx {w : World} {a : Od} {n : Nat} (ha : rdA (txO a) = some a) (la : (txO a).length ≤ 4294967295) (hT : Tbl w) (hn : n ≤ 1000) (hne : a ≠ .nil) : Calls Tryz.prog 25 #[S (txO a), .int .i64 (n : Int)] w (Ret fun r w' => r = .tuple #[S (outS (if bigT (stepO a n) = true then .error 5 else .ok (txO (stepO a n)))), .int .i64 (outE (if bigT (stepO a n) = true then (.error 5 : Except Int (List UInt8)) else .ok (txO (stepO a n))))] ∧ Below w.heap.size w w') := by
  have h' := Step_c (w := w) (n := (n : Int)) la hT
  rw [show stepR (txO a) (n : Int) = if bigT (stepO a n) = true then .error 5 else .ok (txO (stepO a n)) by
    unfold stepR
    rw [ha]
    simp only
    rw [if_pos (by omega), Int.toNat_natCast, if_neg (fun h => hne (kind_zero.1 h))]] at h'
  exact h'
theorem Step_ok {w : World} {a b : Od} {n : Nat} (ha : rdA (txO a) = some a) (la : (txO a).length ≤ 4294967295) (hT : Tbl w) (hn : n ≤ 1000) (hne : a ≠ .nil) (hb : bigT (stepO a n) = false) (he : b = stepO a n) : Calls Tryz.prog 25 #[S (txO a), .int .i64 (n : Int)] w (Ret fun r w' => r = .tuple #[S (txO b), .int .i64 0] ∧ Below w.heap.size w w') := by
  have h := Step_tx ha la hT hn hne
  rw [hb, ← he] at h
  exact h
theorem stepV (a : Od) (n : Nat) : ∃ e s, outE (if bigT (stepO a n) = true then (.error 5 : Except Int (List UInt8)) else .ok (txO (stepO a n))) = e ∧ outS (if bigT (stepO a n) = true then .error 5 else .ok (txO (stepO a n))) = s ∧ (e = 5 ∨ (bigT (stepO a n) = false ∧ e = 0 ∧ s = txO (stepO a n))) := by
  cases h : bigT (stepO a n) with
  | true => exact ⟨_, _, rfl, rfl, .inl rfl⟩
  | false => exact ⟨_, _, rfl, rfl, .inr ⟨rfl, rfl, rfl⟩⟩
set_option maxHeartbeats 16000000 in
theorem falls_c {w : World} {n more : Int} {l : List UInt8} (hT : Tbl w) (hl : l.length ≤ 9223372036854775807) : Calls Tryz.prog 7 #[S l, .int .i64 n, .int .i64 more] w (Ret fun r w' => r = .bool true ∧ Below w.heap.size w w') := by
  refine calls_W (vs := [_, _, _]) Tryz.func7 rfl (by kernel_rfl) rfl ?_
  obtain ⟨n0, hn, hn1⟩ := modI_ex n (n := 20) (by omega)
  obtain ⟨p0, hp, hp1⟩ := modI_ex more (n := 20) (by omega)
  obtain ⟨ro, lo, no, oo, mo, zo⟩ := ordS_tx l
  (repeat (first | with_reducible refine W.seq ?_ | with_reducible refine Ops.nil ?_ | with_reducible refine W.region ?_ | refine z_p (kk := ?_)))
  refine Ops.call rfl rfl rfl rfl rfl (ordS_c (s := l)) (fun r w1 hR => ?_)
  obtain ⟨rfl, hb1⟩ := hR
  generalize ho : ordS l = o at *
  (repeat (first | with_reducible refine W.seq ?_ | with_reducible refine Ops.nil ?_ | with_reducible refine W.region ?_ | refine z_p (kk := ?_)))
  refine Ops.callS rfl rfl rfl rfl rfl (mod_c n 20 _ (by omega) (by omega)) ?_
  rw [hn]
  (repeat (first | with_reducible refine W.seq ?_ | with_reducible refine Ops.nil ?_ | with_reducible refine W.region ?_ | refine z_p (kk := ?_) | refine z_a (kk := ?_)))
  refine Ops.callS rfl rfl rfl rfl rfl (mod_c more 20 _ (by omega) (by omega)) ?_
  rw [hp]
  (repeat (first | with_reducible refine W.seq ?_ | with_reducible refine Ops.nil ?_ | with_reducible refine W.region ?_ | refine z_p (kk := ?_) | refine z_a (kk := ?_)))
  rw [show (n0 : Int) + 1 + (p0 : Int) = ((n0 + 1 + p0 : Nat) : Int) by omega]
  generalize hq : n0 + 1 + p0 = q0 at *
  refine Ops.call rfl rfl rfl rfl rfl (Descent_c (s := txO o) (n := (n0 : Int)) lo (hT.below hb1)) (fun r w2 hR => ?_)
  obtain ⟨v1, rfl, hO1, hb2⟩ := hR
  have hb02 := Below.via hb1 hb2
  have hD := desR_tx (n := n0) ro (by omega) oo.1
  generalize hd : desR (txO o) (n0 : Int) = D at *
  (repeat (first | with_reducible refine W.seq ?_ | with_reducible refine Ops.nil ?_ | with_reducible refine W.region ?_ | refine z_p (kk := ?_)))
  refine Ops.call rfl rfl rfl rfl rfl (Kind_txF ro lo) (fun r w3 hR => ?_)
  obtain ⟨rfl, hb3⟩ := hR
  have hb03 := Below.via hb02 hb3
  have hO3 := hO1.below hb3
  have t1 := hb1.size
  have t2 := hb02.size
  have t3 := hb03.size
  have hsl : SlT w3 v1 ((outL D).map txO) := (hO3.base (by have := hb2.size; have := hb3.size; omega)).sl (z := ([] : List UInt8))
  obtain ⟨A1, c1, hv1⟩ := hO1.sh
  subst hv1
  have hk0 : (kindO o = 0) ↔ (txO o = [48]) := by
    rw [kind_zero]
    exact ⟨fun h => by rw [h]; rfl, fun h => txO_inj (b := .nil) ro rfl h⟩
  have hkk := kind_lt o
  refine Ops.cut (fun ρ w' => ρ = [(1, .int .i64 (n0 : Int)), (7, S (txO o)), (8, .int .i64 (q0 : Int)), (9, .slice A1 ((outL D).map txO).length c1), (10, .int .i64 (outE D)), (11, .int .i64 (kindO o : Int)), (12, .int .i64 0)] ∧ w' = w3) ?_ ?_
  · (repeat (first | with_reducible refine Ops.nil ?_ | refine z_p (kk := ?_)))
    exact W.endl ⟨_, ⟨rfl, rfl⟩, (by repeat (first | exact trivial | refine And.intro rfl ?_))⟩
  rintro ρ w3' ⟨rfl, rfl⟩
  have hkd : decide (txO o = [48]) = ((kindO o : Int) == 0) := by
    rw [Bool.eq_iff_iff]
    simp only [decide_eq_true_eq, beq_iff_eq]
    rw [← hk0]
    omega
  (repeat (first | with_reducible refine W.seq ?_ | with_reducible refine Ops.nil ?_ | with_reducible refine W.region ?_ | refine z_p (kk := ?_) | refine z_y (kk := ?_) | refine z_E (kk := ?_) | refine z_ev (EV.seq rfl rfl rfl rfl) (kk := ?_)))
  refine W.condF rfl (by rw [hkd]; simp) ?_
  (repeat (first | with_reducible refine W.seq ?_ | with_reducible refine Ops.nil ?_ | with_reducible refine W.region ?_ | refine z_p (kk := ?_) | with_reducible refine W.skip ?_))
  refine W.cut (fun ρ w' => ρ = [(1, .int .i64 (n0 : Int)), (7, S (txO o)), (9, .slice A1 ((outL D).map txO).length c1), (10, .int .i64 (outE D))] ∧ Below w3'.heap.size w3' w') ?_ ?_
  · have hb33 : Below w3'.heap.size w3' w3' := Below.refl _ _
    by_cases hk2 : kindO o = 2
    · have hne : o ≠ .nil := fun h => by have := kind_zero.2 h; omega
      refine W.condT rfl (by simp; omega) ?_
      (repeat (first | with_reducible refine W.seq ?_ | with_reducible refine W.region ?_ | refine z_p (kk := ?_)))
      refine Ops.call rfl rfl rfl rfl rfl (Step_tx ro lo (hT.below hb03) (n := n0) (by omega) hne) (fun r w4 hR => ?_)
      obtain ⟨rfl, hb4⟩ := hR
      have hb04 := Below.via hb03 hb4
      obtain ⟨e1, s1, he1, hs1, h1⟩ := stepV o n0
      rw [he1, hs1]
      (repeat (first | with_reducible refine W.seq ?_ | with_reducible refine Ops.nil ?_ | with_reducible refine W.region ?_ | refine z_p (kk := ?_)))
      refine Ops.call rfl rfl rfl rfl rfl (Step_tx ro lo (hT.below hb04) (n := q0) (by omega) hne) (fun r w5 hR => ?_)
      obtain ⟨rfl, hb5⟩ := hR
      have hb05 := Below.via hb04 hb5
      have hb35 := Below.via hb4 hb5
      obtain ⟨e2, s2, he2, hs2, h2⟩ := stepV o q0
      rw [he2, hs2]
      clear he1 hs1 he2 hs2
      rcases h1 with rfl | ⟨g1, rfl, rfl⟩ <;> rcases h2 with rfl | ⟨g2, rfl, rfl⟩
      all_goals try (
        (repeat (first | with_reducible refine W.seq ?_ | with_reducible refine Ops.nil ?_ | with_reducible refine W.region ?_ | refine z_p (kk := ?_) | refine z_y (kk := ?_) | refine z_n (kk := ?_)))
        refine W.condT rfl (by first | rfl | assumption | (simp only [bnf] <;> omega) | (simp only [*, bnf]; done) | fail) ?_
        (repeat (first | with_reducible refine W.seq ?_ | with_reducible refine W.region ?_ | refine z_p (kk := ?_) | refine z_y (kk := ?_) | refine z_n (kk := ?_)))
        repeat (
          refine Ops.callS rfl rfl rfl rfl rfl (full_c _ _) ?_
          (repeat (first | refine z_p (kk := ?_) | refine z_y (kk := ?_) | refine z_n (kk := ?_))))
        refine Ops.call rfl rfl rfl rfl rfl (awake_c (hT.below hb05)) (fun r wz hR => ?_)
        obtain ⟨rfl, hbz⟩ := hR
        (repeat (first | with_reducible refine Ops.nil ?_ | refine z_p (kk := ?_)))
        exact W.fret rfl ⟨rfl, Below.via hb05 hbz⟩)
      have hm1 := step_most o n0
      have hm2 := step_most o q0
      have kx : okS (stepO o n0) := ⟨by omega, by have := of_decide_eq_false g1; omega⟩
      have ky : okS (stepO o q0) := ⟨by omega, by have := of_decide_eq_false g2; omega⟩
      have rx := okS_rd (step_NF n0 no) kx
      have ry := okS_rd (step_NF q0 no) ky
      have hmono := step_mono (a := o) (n := n0) (m := q0) hk2 (by omega)
      have hx1 := leO_cmp.1 hmono.1
      have hx2 : 0 < n0 → cmpO (stepO o n0) (stepO o q0) = -1 := hmono.2
      have hrng := cmp_rng (stepO o n0) (stepO o q0)
      have hy : cmpO (stepO o q0) o = -1 := step_lt q0 hne
      (repeat (first | with_reducible refine W.seq ?_ | with_reducible refine Ops.nil ?_ | with_reducible refine W.region ?_ | refine z_p (kk := ?_) | refine z_y (kk := ?_)))
      refine W.condF rfl (by first | rfl | assumption | (simp only [bnf] <;> omega) | (simp only [*, bnf]; done) | fail) ?_
      (repeat (first | with_reducible refine W.seq ?_ | with_reducible refine W.region ?_ | refine z_p (kk := ?_) | with_reducible refine W.skip ?_))
      refine Ops.call rfl rfl rfl rfl rfl (Compare_tx rx ry (tx_bd kx) (tx_bd ky)) (fun r w6 hR => ?_)
      obtain ⟨rfl, hb6⟩ := hR
      have hb06 := Below.via hb05 hb6
      (repeat (first | with_reducible refine W.seq ?_ | with_reducible refine Ops.nil ?_ | with_reducible refine W.region ?_ | refine z_p (kk := ?_)))
      refine Ops.call rfl rfl rfl rfl rfl (Compare_tx ry ro (tx_bd ky) lo) (fun r w7 hR => ?_)
      obtain ⟨rfl, hb7⟩ := hR
      have hb07 := Below.via hb06 hb7
      rw [hy]
      generalize cmpO (stepO o n0) (stepO o q0) = X at *
      have hfin : Below w3'.heap.size w3' w7 := Below.via hb35 (Below.via hb6 hb7)
      by_cases hn0 : 0 < n0
      · have := hx2 hn0
        subst this
        (repeat (first | with_reducible refine W.seq ?_ | with_reducible refine Ops.nil ?_ | with_reducible refine W.region ?_ | refine z_p (kk := ?_) | refine z_y (kk := ?_) | refine z_n (kk := ?_)))
        refine W.condF rfl (by first | rfl | (simp; done) | (simp; omega)) ?_
        (repeat (first | with_reducible refine W.skip ?_))
        exact W.endl ⟨_, ⟨rfl, hfin⟩, (by repeat (first | exact trivial | refine And.intro rfl ?_))⟩
      · by_cases hX1 : X = -1
        · subst hX1
          (repeat (first | with_reducible refine W.seq ?_ | with_reducible refine Ops.nil ?_ | with_reducible refine W.region ?_ | refine z_p (kk := ?_) | refine z_y (kk := ?_) | refine z_n (kk := ?_)))
          refine W.condF rfl (by first | rfl | (simp; done) | (simp; omega)) ?_
          (repeat (first | with_reducible refine W.skip ?_))
          exact W.endl ⟨_, ⟨rfl, hfin⟩, (by repeat (first | exact trivial | refine And.intro rfl ?_))⟩
        · have hX0 : X = 0 := by omega
          subst hX0
          (repeat (first | with_reducible refine W.seq ?_ | with_reducible refine Ops.nil ?_ | with_reducible refine W.region ?_ | refine z_p (kk := ?_) | refine z_y (kk := ?_) | refine z_h (kk := ?_)))
          refine W.condF rfl (by first | rfl | (simp; done) | (simp; omega)) ?_
          (repeat (first | with_reducible refine W.skip ?_))
          exact W.endl ⟨_, ⟨rfl, hfin⟩, (by repeat (first | exact trivial | refine And.intro rfl ?_))⟩
    · refine W.condF rfl (by simp; omega) ?_
      (repeat (first | with_reducible refine W.skip ?_))
      exact W.endl ⟨_, ⟨rfl, hb33⟩, (by repeat (first | exact trivial | refine And.intro rfl ?_))⟩
  rintro ρ w4 ⟨rfl, hb4⟩
  have hb04 := Below.via hb03 hb4
  cases hx : desW bigO 300 o n0 with
  | none =>
    rw [hx] at hD
    simp only at hD
    subst hD
    rw [show outE (.error 5 : Except Int (List Od)) = 5 from rfl, show ((outL (.error 5)).map txO).length = 0 from rfl]
    (repeat (first | with_reducible refine W.seq ?_ | with_reducible refine Ops.nil ?_ | with_reducible refine W.region ?_ | refine z_p (kk := ?_)))
    refine W.condT rfl (by first | rfl | assumption | (simp only [bnf] <;> omega) | (simp only [*, bnf]; done) | fail) ?_
    (repeat (first | with_reducible refine W.seq ?_ | with_reducible refine W.region ?_ | refine z_p (kk := ?_)))
    refine Ops.callS rfl rfl rfl rfl rfl (full_c _ _) ?_
    (repeat (first | refine z_p (kk := ?_) | refine z_y (kk := ?_) | refine z_l (kk := ?_)))
    refine Ops.call rfl rfl rfl rfl rfl (awake_c (hT.below hb04)) (fun r wz hR => ?_)
    obtain ⟨rfl, hbz⟩ := hR
    (repeat (first | with_reducible refine Ops.nil ?_ | refine z_p (kk := ?_)))
    exact W.fret rfl ⟨rfl, Below.via hb04 hbz⟩
  | some ls =>
    rw [hx] at hD
    simp only at hD
    subst hD
    have hS := desW_spec hx
    have q1 := hS.pos
    have q2 := hS.le
    rw [show outE (.ok ls : Except Int (List Od)) = 0 from rfl]
    rw [show outL (.ok ls) = ls from rfl] at hsl ⊢
    have hlen : (ls.map txO).length = ls.length := by simp
    have hg0 : (!decide ((ls.map txO).getD 0 [] = txO o)) = false := by rw [txL_get (by omega), hS.hd]; simp
    have hgl : (!decide ((ls.map txO).getD (((ls.map txO).length : Int) - 1).toNat [] = [48])) = false := by
      rw [show (((ls.map txO).length : Int) - 1).toNat = ls.length - 1 by omega, txL_get (by omega), hS.fin]; rfl
    (repeat (first | with_reducible refine W.seq ?_ | with_reducible refine Ops.nil ?_ | with_reducible refine W.region ?_ | refine z_p (kk := ?_)))
    refine W.condF rfl (by first | rfl | assumption | (simp only [bnf] <;> omega) | (simp only [*, bnf]; done) | fail) ?_
    (repeat (first | with_reducible refine W.seq ?_ | with_reducible refine Ops.nil ?_ | with_reducible refine W.region ?_ | refine z_p (kk := ?_) | refine z_a (kk := ?_) | refine z_y (kk := ?_) | with_reducible refine W.skip ?_ | refine z_l (kk := ?_) | refine z_TL (kk := fun _ => ?_) | refine z_ev (EV.sne rfl rfl rfl rfl) (kk := ?_) | refine z_h (kk := ?_)))
    refine W.condF rfl (by first | assumption | (rw [hgl]) | (simp; done)) ?_
    (repeat (first | with_reducible refine W.seq ?_ | with_reducible refine Ops.nil ?_ | with_reducible refine W.region ?_ | refine z_p (kk := ?_) | with_reducible refine W.skip ?_ | with_reducible refine W.block ?_))
    have hsl4 := Sl.below hsl hb4
    clear hgl hg0
    refine W.loop (fun z ρ wi => ∃ i : Nat, z = ls.length - i ∧ 1 ≤ i ∧ i ≤ ls.length ∧ ρ = [(1, .int .i64 (n0 : Int)), (9, .slice A1 (ls.map txO).length c1), (21, .int .i64 (i : Int))] ∧ Below w4.heap.size w4 wi)
      ⟨_, _, ⟨1, rfl, Nat.le_refl _, q1, rfl, Below.refl _ _⟩, (by repeat (first | exact trivial | refine And.intro rfl ?_))⟩ ?_
    rintro z ρ wi ⟨i, rfl, hi1, hi, rfl, hbi⟩
    have hb0i := Below.via hb04 hbi
    have hbii : Below wi.heap.size wi wi := Below.refl _ _
    by_cases hil : i < ls.length
    · obtain ⟨x1, x2, x3⟩ := hS.nxt (i - 1) (by omega)
      rw [show i - 1 + 1 = i by omega] at x2 x3
      have hga : (ls.map txO).getD ((i : Int) - 1).toNat [] = txO (ls.getD (i - 1) .nil) := by rw [show ((i : Int) - 1).toNat = i - 1 by omega]; exact txL_get (by omega)
      have hgb : (ls.map txO).getD i [] = txO (ls.getD i .nil) := txL_get hil
      have k1 := hS.ok no (by omega) (by omega) (i - 1) (by omega)
      have k2 := hS.ok no (by omega) (by omega) i hil
      have ra := hS.rd no (by omega) (by omega) (i := i - 1) (by omega)
      have rb := hS.rd no (by omega) (by omega) (i := i) hil
      generalize ls.getD (i - 1) .nil = u at *
      generalize ls.getD i .nil = v at *
      have hbT : bigT (stepO u (n0 + (i - 1))) = false := by
        have := of_decide_eq_false x3
        have h2 := most_top v
        rw [← x2]
        exact decide_eq_false (by omega)
      have hcm : cmpO v u = -1 := by rw [x2]; exact step_lt _ x1
      (repeat (first | with_reducible refine W.seq ?_ | with_reducible refine Ops.nil ?_ | with_reducible refine W.region ?_ | refine z_p (kk := ?_) | refine z_l (kk := ?_)))
      refine W.condT rfl (by first | (simp; done) | (simp; omega)) ?_
      (repeat (first | with_reducible refine W.seq ?_ | with_reducible refine W.region ?_ | refine z_p (kk := ?_) | refine z_a (kk := ?_) | with_reducible refine W.skip ?_ | with_reducible refine W.block ?_ | refine z_TL (kk := fun _ => ?_)))
      rw [hga, show (n0 : Int) + (i : Int) - 1 = ((n0 + (i - 1) : Nat) : Int) by omega]
      refine Ops.call rfl rfl rfl rfl rfl (Step_ok ra (tx_bd ⟨k1.2.1, k1.2.2⟩) (hT.below hb0i) (n := n0 + (i - 1)) (by omega) x1 hbT x2) (fun r w6 hR => ?_)
      obtain ⟨rfl, hb6⟩ := hR
      have hb06 := Below.via hb0i hb6
      have hb66 : Below w6.heap.size w6 w6 := Below.refl _ _
      have hbi6 := Below.via hbi hb6
      (repeat (first | with_reducible refine W.seq ?_ | with_reducible refine Ops.nil ?_ | refine z_p (kk := ?_)))
      refine W.ordA 99 [(0, 1), (1, 1), (2, 1), (3, 2), (4, 1), (5, 1), (6, 1), (7, 1), (8, 2), (9, 2), (10, 1), (11, 1), (12, 1), (13, 1), (14, 1)] rfl (by kernel_rfl) rfl (by kernel_rfl) (fun _ _ _ h => h) ?_
      (repeat (first | refine x_p (kk := ?_) | refine x_a (kk := ?_) | refine x_TJ (kk := fun _ => ?_) | refine x_TL (kk := fun _ => ?_)))
      rw [hga, hgb]
      refine OrdA.call rfl rfl rfl rfl rfl rfl rfl (fun w' hw' => Calls.via hw' (Compare_tx rb ra (tx_bd ⟨k2.2.1, k2.2.2⟩) (tx_bd ⟨k1.2.1, k1.2.2⟩))) ?_
      rw [hcm]
      (repeat (first | refine x_p (kk := ?_)))
      refine OrdA.nil (fun w7 hb7 => ?_)
      have hbi7 := Below.via hbi6 hb7
      have hb77 : Below w7.heap.size w7 w7 := Below.refl _ _
      have hdv : (!decide (txO v = (ls.map txO).getD i [])) = false := by rw [hgb]; simp
      (repeat (first | with_reducible refine W.seq ?_ | with_reducible refine Ops.nil ?_ | with_reducible refine W.region ?_ | refine z_p (kk := ?_) | refine z_y (kk := ?_) | refine z_TJ (kk := fun _ => ?_) | refine z_ev (EV.sne rfl rfl rfl rfl) (kk := ?_) | refine z_h (kk := ?_)))
      refine W.condF rfl (by first | rfl | (simp; done)) ?_
      (repeat (first | with_reducible refine Ops.nil ?_ | with_reducible refine W.region ?_ | refine z_p (kk := ?_) | refine z_a (kk := ?_) | with_reducible refine W.skip ?_ | with_reducible refine W.endb ?_))
      exact W.endl ⟨_, _, ⟨⟨i + 1, rfl, by omega, by omega, rfl, hbi7⟩, by omega⟩, (by repeat (first | exact trivial | refine And.intro rfl ?_))⟩
    · (repeat (first | with_reducible refine W.seq ?_ | with_reducible refine Ops.nil ?_ | with_reducible refine W.region ?_ | refine z_p (kk := ?_) | refine z_l (kk := ?_)))
      refine W.condF rfl (by first | (simp; done) | (simp; omega)) ?_
      (repeat (first | with_reducible refine W.seq ?_ | with_reducible refine W.region ?_ | refine W.exit rfl ?_))
      refine Ops.call rfl rfl rfl rfl rfl (awake_c (hT.below hb0i)) (fun r wz hR => ?_)
      obtain ⟨rfl, hbz⟩ := hR
      (repeat (first | with_reducible refine Ops.nil ?_ | refine z_p (kk := ?_)))
      exact W.fret rfl ⟨rfl, Below.via hb0i hbz⟩
end Go.Proofs.YtcmjlmnfdncajaaGreatDoor
