/- A part of the walk: what this seat's statements share. -/
import Derived.Test.YtcmjlmnfdncajaaGreatDoorZTowerOrderedG1
import Derived.Test.YtcmjlmnfdncajaaGreatDoorZG4
set_option linter.unusedVariables false
set_option linter.unusedSimpArgs false
set_option linter.unusedSectionVars false
/- Plain: descents, one by one; products by one; finite ordinals. -/
namespace Go.Proofs.YtcmjlmnfdncajaaGreatDoor.TW
structure DesS (f : Nat) (a : Od) (n : Nat) (l : List Od) : Prop where
  pos : 1 ≤ l.length
  le : l.length ≤ f
  hd : l.getD 0 .nil = a
  fin : l.getD (l.length - 1) .nil = .nil
  nxt : ∀ i, i + 1 < l.length → l.getD i .nil ≠ .nil ∧ l.getD (i + 1) .nil = stepO (l.getD i .nil) (n + i) ∧ bigO (l.getD (i + 1) .nil) = false
theorem desW_spec : ∀ {f : Nat} {a : Od} {n : Nat} {l : List Od}, desW bigO f a n = some l → DesS f a n l
  | 0, a, n, l, h => by simp [desW] at h
  | f + 1, .nil, n, l, h => by
    simp only [desW, Option.some.injEq] at h
    subst h
    exact ⟨by simp, by simp, rfl, rfl, fun i hi => by simp at hi⟩
  | f + 1, .cons e c r, n, l, h => by
    simp only [desW] at h
    split at h
    · cases h
    · rename_i hb
      cases hx : desW bigO f (stepO (.cons e c r) n) (n + 1) with
      | none => rw [hx] at h; cases h
      | some q =>
        rw [hx] at h
        simp only [Option.map_some, Option.some.injEq] at h
        subst h
        have ih := desW_spec hx
        have hp := ih.pos
        refine ⟨by simp, by have := ih.le; simp; omega, rfl, ?_, fun i hi => ?_⟩
        · rw [List.length_cons, Nat.add_sub_cancel, show q.length = (q.length - 1) + 1 by omega, List.getD_cons_succ]
          exact ih.fin
        · cases i with
          | zero =>
            simp only [List.getD_cons_succ, List.getD_cons_zero, Nat.add_zero]
            rw [ih.hd]
            exact ⟨by simp, rfl, by simpa using hb⟩
          | succ i =>
            have := ih.nxt i (by simpa using hi)
            simp only [List.getD_cons_succ]
            rw [show n + (i + 1) = n + 1 + i by omega]
            exact this
theorem DesS.ok {f : Nat} {a : Od} {n : Nat} {l : List Od} (h : DesS f a n l) (hN : NF a) (hm : mostO a ≤ 1000) (hz : szO a ≤ 60) : ∀ i, i < l.length → NF (l.getD i .nil) ∧ mostO (l.getD i .nil) ≤ 1000 ∧ szO (l.getD i .nil) ≤ 60
  | 0, _ => by rw [h.hd]; exact ⟨hN, hm, hz⟩
  | i + 1, hi => by
    have ih := h.ok hN hm hz i (by omega)
    obtain ⟨h1, h2, h3⟩ := h.nxt i hi
    have h4 := of_decide_eq_false h3
    refine ⟨?_, by omega, by omega⟩
    rw [h2]
    exact step_NF _ ih.1
theorem DesS.rd {f : Nat} {a : Od} {n : Nat} {l : List Od} (h : DesS f a n l) (hN : NF a) (hm : mostO a ≤ 1000) (hz : szO a ≤ 60) {i : Nat} (hi : i < l.length) : rdA (txO (l.getD i .nil)) = some (l.getD i .nil) := by
  obtain ⟨h1, h2, h3⟩ := h.ok hN hm hz i hi
  exact rdA_tx h1 (small_of h1 h2) h3
/-- Behind the parts of a, all of which are greater. -/
theorem add_snoc : ∀ {a e : Od} {c : Nat}, NF (snocO a e c) → addO a (.cons e c .nil) = snocO a e c
  | .nil, e, c, _ => by rw [addO_nil]; rfl
  | .cons ae ac ar, e, c, h => by
    obtain ⟨h1, h2, h3, h4⟩ := h
    have hlt : ltO e ae := by
      have key : ∀ (ar : Od), NF (appO ar (.cons e c .nil)) → HdLt ae (appO ar (.cons e c .nil)) → ltO e ae := fun ar => by
        induction ar with
        | nil => intro _ h; exact h
        | cons x y z _ ih =>
          intro h h5
          refine ih h.2.2.1 ?_
          exact HdLt.up h5 h.2.2.2
      exact key ar h3 h4
    rw [addO_gt hlt, add_snoc h3]
    rfl
theorem prodR_one : ∀ (b acc : Od), NF (appO acc b) → okS (appO acc b) → prodR .nil 1 .nil acc b = some (appO acc b)
  | .nil, acc, _, _ => by rw [appO_nil]; rfl
  | .cons be bc br, acc, h, hk => by
    have e1 : nxtR .nil 1 .nil be bc = .cons be bc .nil := by
      cases be with
      | nil => simp [nxtR]
      | cons x y z => simp only [nxtR, addO_nil]
    rw [← appO_snoc] at h hk
    have hN : NF (snocO acc be bc) := by
      have key : ∀ (a b : Od), NF (appO a b) → NF a := fun a => by
        induction a with
        | nil => intro _ _; trivial
        | cons x y z _ ih =>
          intro b h
          refine ⟨h.1, h.2.1, ih b h.2.2.1, ?_⟩
          cases z with
          | nil => trivial
          | cons p q r => exact h.2.2.2
      exact key _ br h
    have hs := add_snoc hN
    simp only [prodR]
    rw [e1, hs, if_neg, prodR_one br _ h hk, appO_snoc]
    have h1 := hk.1
    have h2 := hk.2
    rw [most_app] at h1
    rw [szO_app] at h2
    unfold bigO
    simp only [decide_eq_true_eq]
    omega
def prodC : Od → Od → Option Od
  | .nil, _ => some .nil
  | .cons ae ac ar, b => prodL ae ac ar .nil b
theorem prodC_nil (a : Od) : prodC a .nil = some .nil := by cases a <;> rfl
theorem prodC_one {a : Od} (hN : NF a) (h : okS a) : prodC a oneO = some a := by
  cases a with
  | nil => rfl
  | cons e c r =>
    have hb : bigT (.cons e c r) = false := by
      have h1 := h.1
      have h2 := h.2
      have h3 := most_top (.cons e c r)
      exact decide_eq_false (by omega)
    show prodL e c r .nil (.cons .nil 1 .nil) = _
    have e1 : stL e c r .nil .nil 1 = some (.cons e c r) := by
      show (chk (.cons e (c * 1) r)).bind (addC .nil) = _
      rw [Nat.mul_one]
      unfold chk
      rw [hb]
      show addC .nil (.cons e c r) = _
      rw [addC_cons, addO_nil]
      unfold chk
      rw [hb]; rfl
    simp only [prodL, e1]
theorem one_prodC {b : Od} (hN : NF b) (h : okS b) : prodC oneO b = some b := by
  show prodL .nil 1 .nil .nil b = _
  rw [prod_eq ⟨by simp [mostO], by simp [szO]⟩ b .nil h.1 (by simp [exM]), prodR_one b .nil hN h]
  rfl
theorem prodR_ok {ae ar : Od} {ac : Nat} : ∀ (b acc r : Od), okS acc → prodR ae ac ar acc b = some r → okS r
  | .nil, acc, r, h, hr => by
    simp only [prodR, Option.some.injEq] at hr
    subst hr; exact h
  | .cons be bc br, acc, r, h, hr => by
    simp only [prodR] at hr
    split at hr
    · cases hr
    · rename_i hb
      refine prodR_ok br _ r ?_ hr
      unfold bigO at hb
      simp only [decide_eq_true_eq] at hb
      exact ⟨by omega, by omega⟩
theorem prodC_spec {a b r : Od} (ha : NF a) (hb : NF b) (ka : okS a) (kb : okS b) (h : prodC a b = some r) : r = mulO a b ∧ okS r := by
  cases a with
  | nil =>
    simp only [prodC, Option.some.injEq] at h
    subst h
    exact ⟨(nil_mul b).symm, by simp [okS, mostO, szO]⟩
  | cons ae ac ar =>
    have h1 := prod_mul ha b .nil r hb trivial h
    rw [addO_nil] at h1
    refine ⟨h1, ?_⟩
    have h2 : prodR ae ac ar .nil b = some r := by
      rw [← prod_eq ka b .nil kb.1 (by simp [exM])]
      exact h
    exact prodR_ok b .nil r (by simp [okS, mostO, szO]) h2
theorem mulO_NF {a b : Od} (ha : NF a) (hb : NF b) : NF (mulO a b) := by
  cases a with
  | nil => rw [nil_mul]; trivial
  | cons e c r => exact mul_NF ha hb
theorem okS_rd {a : Od} (h : NF a) (k : okS a) : rdA (txO a) = some a := rdA_tx h (small_of h k.1) k.2
theorem addC_spec {a b o : Od} (ka : okS a) (kb : okS b) (h : addC a b = some o) : o = addO a b ∧ okS o := by
  cases b with
  | nil =>
    simp only [addC, Option.some.injEq] at h
    subst h
    exact ⟨rfl, ka⟩
  | cons be bc br =>
    rw [addC_cons] at h
    unfold chk at h
    split at h
    · cases h
    · rename_i hb
      simp only [Option.some.injEq] at h
      subst h
      refine ⟨rfl, ?_⟩
      obtain ⟨a1, a2⟩ := ka
      obtain ⟨b1, b2⟩ := kb
      have h3 := exM_le a
      have h4 := exM_le (.cons be bc br)
      have h5 := (add_sizes a (.cons be bc br)).2.2.2.2
      have h6 := most_eq (addO a (.cons be bc br))
      have h7 : ¬ (1000 < topO (addO a (.cons be bc br)) ∨ 60 < szO (addO a (.cons be bc br))) := fun q => hb (decide_eq_true q)
      exact ⟨by omega, by omega⟩
theorem okS_big {a : Od} (h : okS a) : bigT a = false := by
  have := most_top a
  exact decide_eq_false (by have := h.1; have := h.2; omega)
/-- The sum, with what is too large, in one. -/
theorem addC_eq {a b : Od} (ka : okS a) : addC a b = chk (addO a b) := by
  cases b with
  | nil =>
    show some a = _
    rw [addO_nil']
    unfold chk
    rw [okS_big ka]; rfl
  | cons be bc br => rfl
theorem addC_assoc {a b c s t : Od} (ha : NF a) (hb : NF b) (hc : NF c) (ka : okS a) (kb : okS b) (kc : okS c) (h1 : addC a b = some s) (h2 : addC b c = some t) : addC s c = addC a t := by
  obtain ⟨e1, k1⟩ := addC_spec ka kb h1
  obtain ⟨e2, k2⟩ := addC_spec kb kc h2
  rw [addC_eq k1, addC_eq ka, e1, e2, addO_assoc ha hb hc]
theorem lim_hd {o : Od} (hN : NF o) (h : kindO o = 2) : ∃ e c r, o = .cons e c r ∧ e ≠ .nil := by
  cases o with
  | nil => simp [kindO] at h
  | cons e c r =>
    refine ⟨e, c, r, rfl, fun he => ?_⟩
    subst he
    have hr := hd_nil hN.2.2.2
    subst hr
    simp [kindO] at h
theorem fin_absorb {o : Od} {m : Nat} (hN : NF o) (h : kindO o = 2) : addO (ptO .nil m .nil) o = o := by
  obtain ⟨e, c, r, rfl, he⟩ := lim_hd hN h
  unfold ptO
  split
  · rename_i hm
    refine addO_lt ⟨trivial, hm, trivial, trivial⟩ ?_
    cases e with
    | nil => exact absurd rfl he
    | cons _ _ _ => exact nil_lt
  · rw [addO_nil]
end Go.Proofs.YtcmjlmnfdncajaaGreatDoor.TW
namespace Go.Proofs.YtcmjlmnfdncajaaGreatDoor.VW
open Go Go.RowKit
section
variable {P : Program} [hT : Tab P] {n : Nat} {ds : List Deferred} {Φ : Post} {k : List It} {ρ : E} {w : World} {all : Array Oper} {l : List Oper} {md : Option (List Oper)} {s : Nat} {F : World → Prop} {π : List (Nat × Nat)} {L : List Bool}
/-- An element of an array in a block that stands. -/
theorem x_A {i1 i2 d1 d2 t e t' t2 b i len : Nat} {o1 o2 : Oper} {x y : Operand} {cs : Array Value} {v : Value} {w0 : World} {c1 c2 : Bool} (e1 : all[i1]? = some o1 := by exact rfl) (h1 : o1.op = .indexAddr t x y := by exact rfl) (hd1 : o1.dst = some d1 := by exact rfl) (hg1 : gdB all ρ o1.guard = some c1 := by exact rfl) (hc1 : c1 = true := by exact rfl) (e2 : all[i2]? = some o2 := by exact rfl) (h2 : o2.op = .load t' (.tmp d1) := by exact rfl) (hd2 : o2.dst = some d2 := by exact rfl) (hg2 : ∀ p, gdB all ((d1, .pointer p) :: ρ) o2.guard = some c2 := by exact fun _ => rfl) (hc2 : c2 = true := by exact rfl)
    (ht : tyD P t = some (.array len e) := by exact rfl) (hs : tyS P e = some 1 := by exact rfl) (ha : tyAgg P t' = some false := by exact rfl) (hx : ev ρ x = some (.pointer (some ⟨b, 0, none⟩)) := by exact rfl) (hy : ev ρ y = some (.int .i64 (i : Int)) := by exact rfl) (hb : Blk w0 b cs t2 := by assumption) (hF : ∀ w, F w → Below w0.heap.size w0 w := by first | exact fun _ h => h | (intro _ h; exact Below.via (by assumption) h)) (hi : i < len := by omega) (hn : nth cs.toList i = some v := by exact rfl)
    (kk : ∀ p, OrdA P n ds all k Φ s F π ((L.set i1 true).set i2 true) ((d2, v) :: (d1, p) :: ρ)) : OrdA P n ds all k Φ s F ((i1, 1) :: (i2, 2) :: π) L ρ := by
  refine OrdA.pure e1 hd1 hg1 hc1 (fun w => EV.idxP h1 ht hs hx hy (by omega) (by omega)) ?_
  have e : (⟨b, 0, none⟩ : Addr).add ((i : Int).toNat * 1) = ⟨b, i, none⟩ := by rw [add_lit]; simp
  rw [e]
  exact OrdA.read e2 hd2 (hg2 _) hc2 (fun w hw => EV.ld h2 ha (ev_top _ _ _) ((hb.kp (Kp.of_below (S := fun _ => False) (hF w hw)) (fun e => e)).cell (by rw [nth_eq] at hn; simpa using hn))) (kk _)
end
end Go.Proofs.YtcmjlmnfdncajaaGreatDoor.VW
namespace Go.Proofs.YtcmjlmnfdncajaaGreatDoor
open Go Go.RowKit Go.Proofs.YtcmjlmnfdncajaaGreatDoor.VW Go.Proofs.YtcmjlmnfdncajaaGreatDoor.TW
attribute [local irreducible] W Ops OrdA VW.Ord OrdX Wi OpsI OrdF
theorem bothR_ok {G : Od → Od → Except Int Od} {a b : Od} (ha : rdA (txO a) = some a) (hb : rdA (txO b) = some b) : bothR G (txO a) (txO b) = (G a b).map txO := by
  unfold bothR
  rw [ha, hb]
theorem ordS_tx (s : List UInt8) : rdA (txO (ordS s)) = some (ordS s) ∧ (txO (ordS s)).length ≤ 4294967295 ∧ NF (ordS s) ∧ okS (ordS s) ∧ mostO (ordS s) ≤ 24 ∧ szO (ordS s) ≤ 39 := by
  obtain ⟨q1, q2, q3⟩ := ordS_ok s
  have := txO_len (o := ordS s) (by omega)
  exact ⟨rdA_ordS s, by omega, q1, ⟨by omega, by omega⟩, q2, q3⟩
theorem tx_bd {a : Od} (h : okS a) : (txO a).length ≤ 4294967295 := by
  have := txO_len (o := a) (by have := h.1; omega)
  have := h.2
  omega
theorem eM_some {o : Od} : outE ((fullG (some o)).map txO) = 0 ∧ outS ((fullG (some o)).map txO) = txO o := ⟨rfl, rfl⟩
theorem eM_none : outE ((fullG none).map txO) = 5 ∧ outS ((fullG none).map txO) = [] := ⟨rfl, rfl⟩
theorem Compare_tx {w : World} {a b : Od} (ha : rdA (txO a) = some a) (hb : rdA (txO b) = some b) (la : (txO a).length ≤ 4294967295) (lb : (txO b).length ≤ 4294967295) :
    Calls Tryz.prog 20 #[S (txO a), S (txO b)] w (Ret fun r w' => r = .tuple #[.int .i64 (cmpO a b), .int .i64 0] ∧ Below w.heap.size w w') := by
  have h := Compare_c (w := w) la lb
  rw [cmpR_ok ha hb] at h
  exact h
theorem Sum_tx {w : World} {a b : Od} (ha : rdA (txO a) = some a) (hb : rdA (txO b) = some b) (la : (txO a).length ≤ 4294967295) (lb : (txO b).length ≤ 4294967295) (hT : Tbl w) :
    Calls Tryz.prog 21 #[S (txO a), S (txO b)] w (Ret fun r w' => r = .tuple #[S (outS ((fullG (addC a b)).map txO)), .int .i64 (outE ((fullG (addC a b)).map txO))] ∧ Below w.heap.size w w') := by
  have h := Sum_c (w := w) la lb hT
  rw [bothR_ok ha hb] at h
  exact h
theorem tx_dec {a b : Od} (ra : rdA (txO a) = some a) (rb : rdA (txO b) = some b) : decide (txO a = txO b) = (cmpO a b == 0) := by
  rw [Bool.eq_iff_iff]
  simp only [decide_eq_true_eq, beq_iff_eq]
  exact ⟨fun h => cmp_zero.2 (txO_inj ra rb h), fun h => by rw [cmp_zero.1 h]⟩
set_option maxHeartbeats 8000000 in
theorem ordered_c {w : World} {l0 l1 l2 : List UInt8} (hT : Tbl w) : Calls Tryz.prog 4 #[.agg #[S l0, S l1, S l2]] w (Ret fun r w' => r = .bool true ∧ Below w.heap.size w w') := by
  obtain ⟨ra, la, na, oa, ma, za⟩ := ordS_tx l0
  obtain ⟨rb, lb, nb, ob, mb, zb⟩ := ordS_tx l1
  obtain ⟨rc, lc, nc, oc, mc, zc⟩ := ordS_tx l2
  generalize ha : ordS l0 = a at *
  generalize hb : ordS l1 = b at *
  generalize hc : ordS l2 = c at *
  refine calls_W (vs := [_]) Tryz.func4 rfl (by kernel_rfl) rfl ?_
  (repeat (first | with_reducible refine W.seq ?_ | with_reducible refine W.region ?_))
  refine Ops.box rfl rfl rfl rfl (fun w1 b1 hM1 => ?_)
  have B1 : Blk w1 b1 #[S l0, S l1, S l2] 33 := hM1.at_
  have hb01 := Mk.bel hM1
  (repeat (first | with_reducible refine W.seq ?_ | with_reducible refine Ops.nil ?_ | refine z_p (kk := ?_)))
  refine W.ordA 99 [(0, 1), (1, 2), (2, 2), (3, 1), (4, 2), (5, 2), (6, 1), (7, 2), (8, 2), (9, 1), (10, 1), (11, 1)] rfl (by kernel_rfl) rfl (by kernel_rfl) (fun _ _ _ h => h) ?_
  refine x_A (i := 0) (kk := fun _ => ?_)
  refine OrdA.call rfl rfl rfl rfl rfl rfl rfl (fun w' hw' => Calls.via hw' (ordS_c (s := l0))) ?_
  refine x_A (i := 1) (kk := fun _ => ?_)
  refine OrdA.call rfl rfl rfl rfl rfl rfl rfl (fun w' hw' => Calls.via hw' (ordS_c (s := l1))) ?_
  refine x_A (i := 2) (kk := fun _ => ?_)
  refine OrdA.call rfl rfl rfl rfl rfl rfl rfl (fun w' hw' => Calls.via hw' (ordS_c (s := l2))) ?_
  rw [ha, hb, hc]
  (repeat (first | refine x_p (kk := ?_)))
  refine OrdA.nil (fun w2 hb12 => ?_)
  have hb02 := Below.via hb01 hb12
  (repeat (first | with_reducible refine W.seq ?_ | with_reducible refine W.region ?_ | refine z_p (kk := ?_)))
  refine Ops.call rfl rfl rfl rfl rfl (Compare_tx ra rb la lb) (fun r w3 hR => ?_)
  obtain ⟨rfl, hb23⟩ := hR
  have hb03 := Below.via hb02 hb23
  (repeat (first | with_reducible refine W.seq ?_ | with_reducible refine Ops.nil ?_ | with_reducible refine W.region ?_ | refine z_p (kk := ?_)))
  refine Ops.call rfl rfl rfl rfl rfl (Compare_tx rb ra lb la) (fun r w4 hR => ?_)
  obtain ⟨rfl, hb34⟩ := hR
  have hb04 := Below.via hb03 hb34
  (repeat (first | with_reducible refine W.seq ?_ | with_reducible refine Ops.nil ?_ | with_reducible refine W.region ?_ | refine z_p (kk := ?_)))
  refine Ops.call rfl rfl rfl rfl rfl (Compare_tx rb rc lb lc) (fun r w5 hR => ?_)
  obtain ⟨rfl, hb45⟩ := hR
  have hb05 := Below.via hb04 hb45
  (repeat (first | with_reducible refine W.seq ?_ | with_reducible refine Ops.nil ?_ | with_reducible refine W.region ?_ | refine z_p (kk := ?_)))
  refine Ops.call rfl rfl rfl rfl rfl (Compare_tx ra rc la lc) (fun r w6 hR => ?_)
  obtain ⟨rfl, hb56⟩ := hR
  have hb06 := Below.via hb05 hb56
  have hX := cmp_rng a b
  have hY := cmp_swap a b
  have hZ := cmp_rng b c
  have hW := cmp_rng a c
  have htr := cmp_trans a b c
  have hd := tx_dec ra rb
  rw [hY]
  generalize cmpO a b = X at *
  generalize cmpO b c = Z at *
  generalize cmpO a c = V at *
  refine Ops.cut (fun ρ w' => ρ = [(3, S (txO a)), (4, S (txO b)), (5, S (txO c)), (6, .int .i64 X), (7, .int .i64 0), (8, .int .i64 (-X)), (9, .int .i64 0), (10, .int .i64 Z), (11, .int .i64 0), (12, .int .i64 V), (13, .int .i64 0)] ∧ w' = w6) ?_ ?_
  · (repeat (first | with_reducible refine Ops.nil ?_ | refine z_p (kk := ?_)))
    exact W.endl ⟨_, ⟨rfl, rfl⟩, (by repeat (first | exact trivial | refine And.intro rfl ?_))⟩
  rintro ρ w6' ⟨rfl, rfl⟩
  refine W.seq ?_
  refine W.cut (fun ρ w' => ρ = [(3, S (txO a)), (4, S (txO b)), (5, S (txO c))] ∧ w' = w6') ?_ ?_
  · (repeat (first | with_reducible refine W.seq ?_ | with_reducible refine W.region ?_ | refine z_p (kk := ?_) | refine z_a (kk := ?_) | refine z_y (kk := ?_) | refine z_E (kk := ?_) | refine z_ev (EV.seq rfl rfl rfl rfl) (kk := ?_) | refine z_h (kk := ?_)))
    by_cases h1 : X ≤ 0
    · by_cases h2 : Z ≤ 0
      · obtain ⟨t1, t2⟩ := htr h1 h2
        by_cases h3 : V = 0
        · have h4 : ¬ X + Z < 0 := fun h => by have := t2 (by omega); omega
          (repeat (first | with_reducible refine Ops.nil ?_ | refine z_p (kk := ?_) | refine z_a (kk := ?_) | refine z_y (kk := ?_) | refine z_h (kk := ?_)))
          refine W.condF rfl (by first | rfl | (simp; done) | (simp; omega)) ?_
          (repeat (first | with_reducible refine W.skip ?_))
          exact W.endl ⟨_, ⟨rfl, rfl⟩, (by repeat (first | exact trivial | refine And.intro rfl ?_))⟩
        · (repeat (first | with_reducible refine Ops.nil ?_ | refine z_p (kk := ?_) | refine z_y (kk := ?_) | refine z_n (kk := ?_) | refine z_g (kk := ?_) | refine z_h (kk := ?_)))
          refine W.condF rfl (by first | rfl | (simp; done) | (simp; omega)) ?_
          (repeat (first | with_reducible refine W.skip ?_))
          exact W.endl ⟨_, ⟨rfl, rfl⟩, (by repeat (first | exact trivial | refine And.intro rfl ?_))⟩
      · (repeat (first | with_reducible refine Ops.nil ?_ | refine z_p (kk := ?_) | refine z_y (kk := ?_) | refine z_n (kk := ?_) | refine z_u (kk := ?_) | refine z_g (kk := ?_) | refine z_h (kk := ?_)))
        refine W.condF rfl (by first | rfl | (simp; done) | (simp; omega)) ?_
        (repeat (first | with_reducible refine W.skip ?_))
        exact W.endl ⟨_, ⟨rfl, rfl⟩, (by repeat (first | exact trivial | refine And.intro rfl ?_))⟩
    · (repeat (first | with_reducible refine Ops.nil ?_ | refine z_p (kk := ?_) | refine z_y (kk := ?_) | refine z_n (kk := ?_) | refine z_u (kk := ?_) | refine z_g (kk := ?_)))
      refine W.condF rfl (by first | rfl | (simp; done) | (simp; omega)) ?_
      (repeat (first | with_reducible refine W.skip ?_))
      exact W.endl ⟨_, ⟨rfl, rfl⟩, (by repeat (first | exact trivial | refine And.intro rfl ?_))⟩
  rintro ρ w6 ⟨rfl, rfl⟩
  clear hd htr hX hY hZ hW
  (repeat (first | with_reducible refine W.seq ?_ | with_reducible refine W.region ?_ | refine z_p (kk := ?_)))
  refine Ops.call rfl rfl rfl rfl rfl (Sum_tx ra rb la lb (hT.below hb06)) (fun r w7 hR => ?_)
  obtain ⟨rfl, hb67⟩ := hR
  have hb07 := Below.via hb06 hb67
  (repeat (first | with_reducible refine W.seq ?_ | with_reducible refine Ops.nil ?_ | with_reducible refine W.region ?_ | refine z_p (kk := ?_)))
  refine Ops.call rfl rfl rfl rfl rfl (Sum_tx rb rc lb lc (hT.below hb07)) (fun r w8 hR => ?_)
  obtain ⟨rfl, hb78⟩ := hR
  have hb08 := Below.via hb07 hb78
  cases hs : addC a b with
  | none =>
    rw [eM_none.1, eM_none.2]
    cases ht : addC b c with
    | none =>
      rw [eM_none.1, eM_none.2]
      (repeat (first | with_reducible refine W.seq ?_ | with_reducible refine Ops.nil ?_ | with_reducible refine W.region ?_ | refine z_p (kk := ?_) | refine z_n (kk := ?_)))
      refine W.condT rfl (by first | rfl | assumption | (simp only [bnf] <;> omega) | (simp only [*, bnf]; done) | fail) ?_
      (repeat (first | with_reducible refine W.seq ?_ | with_reducible refine W.region ?_ | refine z_p (kk := ?_) | refine z_y (kk := ?_)))
      refine Ops.callS rfl rfl rfl rfl rfl (full_c _ _) ?_
      (repeat (first | refine z_p (kk := ?_) | refine z_y (kk := ?_)))
      refine Ops.callS rfl rfl rfl rfl rfl (full_c _ _) ?_
      (repeat (first | refine z_p (kk := ?_) | refine z_y (kk := ?_)))
      refine Ops.call rfl rfl rfl rfl rfl (awake_c (hT.below hb08)) (fun r wz hR => ?_)
      obtain ⟨rfl, hbz⟩ := hR
      (repeat (first | with_reducible refine Ops.nil ?_ | refine z_p (kk := ?_)))
      exact W.fret rfl ⟨rfl, Below.via hb08 hbz⟩
    | some t =>
      rw [eM_some.1, eM_some.2]
      (repeat (first | with_reducible refine W.seq ?_ | with_reducible refine Ops.nil ?_ | with_reducible refine W.region ?_ | refine z_p (kk := ?_) | refine z_n (kk := ?_)))
      refine W.condT rfl (by first | rfl | assumption | (simp only [bnf] <;> omega) | (simp only [*, bnf]; done) | fail) ?_
      (repeat (first | with_reducible refine W.seq ?_ | with_reducible refine W.region ?_ | refine z_p (kk := ?_) | refine z_y (kk := ?_)))
      refine Ops.callS rfl rfl rfl rfl rfl (full_c _ _) ?_
      (repeat (first | refine z_p (kk := ?_) | refine z_y (kk := ?_) | refine z_n (kk := ?_)))
      refine Ops.call rfl rfl rfl rfl rfl (awake_c (hT.below hb08)) (fun r wz hR => ?_)
      obtain ⟨rfl, hbz⟩ := hR
      (repeat (first | with_reducible refine Ops.nil ?_ | refine z_p (kk := ?_)))
      exact W.fret rfl ⟨rfl, Below.via hb08 hbz⟩
  | some s =>
    rw [eM_some.1, eM_some.2]
    cases ht : addC b c with
    | none =>
      rw [eM_none.1, eM_none.2]
      (repeat (first | with_reducible refine W.seq ?_ | with_reducible refine Ops.nil ?_ | with_reducible refine W.region ?_ | refine z_p (kk := ?_) | refine z_y (kk := ?_)))
      refine W.condT rfl (by first | rfl | assumption | (simp only [bnf] <;> omega) | (simp only [*, bnf]; done) | fail) ?_
      (repeat (first | with_reducible refine W.seq ?_ | with_reducible refine W.region ?_ | refine z_p (kk := ?_) | refine z_y (kk := ?_) | refine z_n (kk := ?_)))
      refine Ops.callS rfl rfl rfl rfl rfl (full_c _ _) ?_
      (repeat (first | refine z_p (kk := ?_) | refine z_y (kk := ?_)))
      refine Ops.call rfl rfl rfl rfl rfl (awake_c (hT.below hb08)) (fun r wz hR => ?_)
      obtain ⟨rfl, hbz⟩ := hR
      (repeat (first | with_reducible refine Ops.nil ?_ | refine z_p (kk := ?_)))
      exact W.fret rfl ⟨rfl, Below.via hb08 hbz⟩
    | some t =>
      rw [eM_some.1, eM_some.2]
      obtain ⟨e1, k1⟩ := addC_spec oa ob hs
      obtain ⟨e2, k2⟩ := addC_spec ob oc ht
      have has := addC_assoc na nb nc oa ob oc hs ht
      have rs : rdA (txO s) = some s := okS_rd (by rw [e1]; exact addO_NF na nb) k1
      have rt : rdA (txO t) = some t := okS_rd (by rw [e2]; exact addO_NF nb nc) k2
      (repeat (first | with_reducible refine W.seq ?_ | with_reducible refine Ops.nil ?_ | with_reducible refine W.region ?_ | refine z_p (kk := ?_) | refine z_y (kk := ?_)))
      refine W.condF rfl (by first | rfl | assumption | (simp only [bnf] <;> omega) | (simp only [*, bnf]; done) | fail) ?_
      (repeat (first | with_reducible refine W.seq ?_ | with_reducible refine W.region ?_ | refine z_p (kk := ?_) | with_reducible refine W.skip ?_))
      refine Ops.call rfl rfl rfl rfl rfl (Sum_tx rs rc (tx_bd k1) lc (hT.below hb08)) (fun r w9 hR => ?_)
      obtain ⟨rfl, hb89⟩ := hR
      have hb09 := Below.via hb08 hb89
      (repeat (first | with_reducible refine W.seq ?_ | with_reducible refine Ops.nil ?_ | with_reducible refine W.region ?_ | refine z_p (kk := ?_)))
      refine Ops.call rfl rfl rfl rfl rfl (Sum_tx ra rt la (tx_bd k2) (hT.below hb09)) (fun r w10 hR => ?_)
      obtain ⟨rfl, hb910⟩ := hR
      have hb010 := Below.via hb09 hb910
      rw [has]
      cases hu : addC a t with
      | none =>
        rw [eM_none.1, eM_none.2]
        (repeat (first | with_reducible refine W.seq ?_ | with_reducible refine Ops.nil ?_ | with_reducible refine W.region ?_ | refine z_p (kk := ?_) | refine z_y (kk := ?_) | refine z_ev (EV.seq rfl rfl rfl rfl) (kk := ?_)))
        refine Ops.callS rfl rfl rfl rfl rfl (full_c _ _) ?_
        (repeat (first | refine z_p (kk := ?_) | refine z_y (kk := ?_)))
        refine Ops.call rfl rfl rfl rfl rfl (awake_c (hT.below hb010)) (fun r wz hR => ?_)
        obtain ⟨rfl, hbz⟩ := hR
        (repeat (first | with_reducible refine Ops.nil ?_ | refine z_p (kk := ?_)))
        exact W.fret rfl ⟨rfl, Below.via hb010 hbz⟩
      | some u =>
        rw [eM_some.1, eM_some.2]
        (repeat (first | with_reducible refine W.seq ?_ | with_reducible refine Ops.nil ?_ | with_reducible refine W.region ?_ | refine z_p (kk := ?_) | refine z_y (kk := ?_) | refine z_n (kk := ?_) | refine z_ev (EV.seq rfl rfl rfl rfl) (kk := ?_) | refine z_h (kk := ?_)))
        refine Ops.call rfl rfl rfl rfl rfl (awake_c (hT.below hb010)) (fun r wz hR => ?_)
        obtain ⟨rfl, hbz⟩ := hR
        (repeat (first | with_reducible refine Ops.nil ?_ | refine z_p (kk := ?_)))
        exact W.fret rfl ⟨rfl, Below.via hb010 hbz⟩
end Go.Proofs.YtcmjlmnfdncajaaGreatDoor
