/- A part of the walk: what this seat's statements share. -/
import Derived.Test.YtcmjlmnfdncajaaGreatDoorZTowerFiniteG1
import Derived.Test.YtcmjlmnfdncajaaGreatDoorZG4
import Derived.Test.YtcmjlmnfdncajaaGreatDoorZG7
import Derived.Test.YtcmjlmnfdncajaaGreatDoorZG9
import Derived.Test.YtcmjlmnfdncajaaGreatDoorZG8
set_option linter.unusedVariables false
set_option linter.unusedSimpArgs false
set_option linter.unusedSectionVars false
/- Plain: descents, one by one; products by one; finite ordinals. -/
namespace Go.Proofs.YtcmjlmnfdncajaaGreatDoor.TW
structure DesS (f : Nat) (a : Od) (n : Nat) (l : List Od) : Prop where
  pos : 1 ≤ l.length
  le : l.length ≤ f
  hd : l.getD 0 .nil = a
  fin : l.getD (l.length - 1) .nil = .nil
  nxt : ∀ i, i + 1 < l.length → l.getD i .nil ≠ .nil ∧ l.getD (i + 1) .nil = stepO (l.getD i .nil) (n + i) ∧ bigO (l.getD (i + 1) .nil) = false
theorem desW_spec : ∀ {f : Nat} {a : Od} {n : Nat} {l : List Od}, desW bigO f a n = some l → DesS f a n l
  | 0, a, n, l, h => by simp [desW] at h
  | f + 1, .nil, n, l, h => by
    simp only [desW, Option.some.injEq] at h
    subst h
    exact ⟨by simp, by simp, rfl, rfl, fun i hi => by simp at hi⟩
  | f + 1, .cons e c r, n, l, h => by
    simp only [desW] at h
    split at h
    · cases h
    · rename_i hb
      cases hx : desW bigO f (stepO (.cons e c r) n) (n + 1) with
      | none => rw [hx] at h; cases h
      | some q =>
        rw [hx] at h
        simp only [Option.map_some, Option.some.injEq] at h
        subst h
        have ih := desW_spec hx
        have hp := ih.pos
        refine ⟨by simp, by have := ih.le; simp; omega, rfl, ?_, fun i hi => ?_⟩
        · rw [List.length_cons, Nat.add_sub_cancel, show q.length = (q.length - 1) + 1 by omega, List.getD_cons_succ]
          exact ih.fin
        · cases i with
          | zero =>
            simp only [List.getD_cons_succ, List.getD_cons_zero, Nat.add_zero]
            rw [ih.hd]
            exact ⟨by simp, rfl, by simpa using hb⟩
          | succ i =>
            have := ih.nxt i (by simpa using hi)
            simp only [List.getD_cons_succ]
            rw [show n + (i + 1) = n + 1 + i by omega]
            exact this
theorem DesS.ok {f : Nat} {a : Od} {n : Nat} {l : List Od} (h : DesS f a n l) (hN : NF a) (hm : mostO a ≤ 1000) (hz : szO a ≤ 60) : ∀ i, i < l.length → NF (l.getD i .nil) ∧ mostO (l.getD i .nil) ≤ 1000 ∧ szO (l.getD i .nil) ≤ 60
  | 0, _ => by rw [h.hd]; exact ⟨hN, hm, hz⟩
  | i + 1, hi => by
    have ih := h.ok hN hm hz i (by omega)
    obtain ⟨h1, h2, h3⟩ := h.nxt i hi
    have h4 := of_decide_eq_false h3
    refine ⟨?_, by omega, by omega⟩
    rw [h2]
    exact step_NF _ ih.1
theorem DesS.rd {f : Nat} {a : Od} {n : Nat} {l : List Od} (h : DesS f a n l) (hN : NF a) (hm : mostO a ≤ 1000) (hz : szO a ≤ 60) {i : Nat} (hi : i < l.length) : rdA (txO (l.getD i .nil)) = some (l.getD i .nil) := by
  obtain ⟨h1, h2, h3⟩ := h.ok hN hm hz i hi
  exact rdA_tx h1 (small_of h1 h2) h3
/-- Behind the parts of a, all of which are greater. -/
theorem add_snoc : ∀ {a e : Od} {c : Nat}, NF (snocO a e c) → addO a (.cons e c .nil) = snocO a e c
  | .nil, e, c, _ => by rw [addO_nil]; rfl
  | .cons ae ac ar, e, c, h => by
    obtain ⟨h1, h2, h3, h4⟩ := h
    have hlt : ltO e ae := by
      have key : ∀ (ar : Od), NF (appO ar (.cons e c .nil)) → HdLt ae (appO ar (.cons e c .nil)) → ltO e ae := fun ar => by
        induction ar with
        | nil => intro _ h; exact h
        | cons x y z _ ih =>
          intro h h5
          refine ih h.2.2.1 ?_
          exact HdLt.up h5 h.2.2.2
      exact key ar h3 h4
    rw [addO_gt hlt, add_snoc h3]
    rfl
theorem prodR_one : ∀ (b acc : Od), NF (appO acc b) → okS (appO acc b) → prodR .nil 1 .nil acc b = some (appO acc b)
  | .nil, acc, _, _ => by rw [appO_nil]; rfl
  | .cons be bc br, acc, h, hk => by
    have e1 : nxtR .nil 1 .nil be bc = .cons be bc .nil := by
      cases be with
      | nil => simp [nxtR]
      | cons x y z => simp only [nxtR, addO_nil]
    rw [← appO_snoc] at h hk
    have hN : NF (snocO acc be bc) := by
      have key : ∀ (a b : Od), NF (appO a b) → NF a := fun a => by
        induction a with
        | nil => intro _ _; trivial
        | cons x y z _ ih =>
          intro b h
          refine ⟨h.1, h.2.1, ih b h.2.2.1, ?_⟩
          cases z with
          | nil => trivial
          | cons p q r => exact h.2.2.2
      exact key _ br h
    have hs := add_snoc hN
    simp only [prodR]
    rw [e1, hs, if_neg, prodR_one br _ h hk, appO_snoc]
    have h1 := hk.1
    have h2 := hk.2
    rw [most_app] at h1
    rw [szO_app] at h2
    unfold bigO
    simp only [decide_eq_true_eq]
    omega
def prodC : Od → Od → Option Od
  | .nil, _ => some .nil
  | .cons ae ac ar, b => prodL ae ac ar .nil b
theorem prodC_nil (a : Od) : prodC a .nil = some .nil := by cases a <;> rfl
theorem prodC_one {a : Od} (hN : NF a) (h : okS a) : prodC a oneO = some a := by
  cases a with
  | nil => rfl
  | cons e c r =>
    have hb : bigT (.cons e c r) = false := by
      have h1 := h.1
      have h2 := h.2
      have h3 := most_top (.cons e c r)
      exact decide_eq_false (by omega)
    show prodL e c r .nil (.cons .nil 1 .nil) = _
    have e1 : stL e c r .nil .nil 1 = some (.cons e c r) := by
      show (chk (.cons e (c * 1) r)).bind (addC .nil) = _
      rw [Nat.mul_one]
      unfold chk
      rw [hb]
      show addC .nil (.cons e c r) = _
      rw [addC_cons, addO_nil]
      unfold chk
      rw [hb]; rfl
    simp only [prodL, e1]
theorem one_prodC {b : Od} (hN : NF b) (h : okS b) : prodC oneO b = some b := by
  show prodL .nil 1 .nil .nil b = _
  rw [prod_eq ⟨by simp [mostO], by simp [szO]⟩ b .nil h.1 (by simp [exM]), prodR_one b .nil hN h]
  rfl
theorem prodR_ok {ae ar : Od} {ac : Nat} : ∀ (b acc r : Od), okS acc → prodR ae ac ar acc b = some r → okS r
  | .nil, acc, r, h, hr => by
    simp only [prodR, Option.some.injEq] at hr
    subst hr; exact h
  | .cons be bc br, acc, r, h, hr => by
    simp only [prodR] at hr
    split at hr
    · cases hr
    · rename_i hb
      refine prodR_ok br _ r ?_ hr
      unfold bigO at hb
      simp only [decide_eq_true_eq] at hb
      exact ⟨by omega, by omega⟩
theorem prodC_spec {a b r : Od} (ha : NF a) (hb : NF b) (ka : okS a) (kb : okS b) (h : prodC a b = some r) : r = mulO a b ∧ okS r := by
  cases a with
  | nil =>
    simp only [prodC, Option.some.injEq] at h
    subst h
    exact ⟨(nil_mul b).symm, by simp [okS, mostO, szO]⟩
  | cons ae ac ar =>
    have h1 := prod_mul ha b .nil r hb trivial h
    rw [addO_nil] at h1
    refine ⟨h1, ?_⟩
    have h2 : prodR ae ac ar .nil b = some r := by
      rw [← prod_eq ka b .nil kb.1 (by simp [exM])]
      exact h
    exact prodR_ok b .nil r (by simp [okS, mostO, szO]) h2
theorem mulO_NF {a b : Od} (ha : NF a) (hb : NF b) : NF (mulO a b) := by
  cases a with
  | nil => rw [nil_mul]; trivial
  | cons e c r => exact mul_NF ha hb
theorem okS_rd {a : Od} (h : NF a) (k : okS a) : rdA (txO a) = some a := rdA_tx h (small_of h k.1) k.2
theorem addC_spec {a b o : Od} (ka : okS a) (kb : okS b) (h : addC a b = some o) : o = addO a b ∧ okS o := by
  cases b with
  | nil =>
    simp only [addC, Option.some.injEq] at h
    subst h
    exact ⟨rfl, ka⟩
  | cons be bc br =>
    rw [addC_cons] at h
    unfold chk at h
    split at h
    · cases h
    · rename_i hb
      simp only [Option.some.injEq] at h
      subst h
      refine ⟨rfl, ?_⟩
      obtain ⟨a1, a2⟩ := ka
      obtain ⟨b1, b2⟩ := kb
      have h3 := exM_le a
      have h4 := exM_le (.cons be bc br)
      have h5 := (add_sizes a (.cons be bc br)).2.2.2.2
      have h6 := most_eq (addO a (.cons be bc br))
      have h7 : ¬ (1000 < topO (addO a (.cons be bc br)) ∨ 60 < szO (addO a (.cons be bc br))) := fun q => hb (decide_eq_true q)
      exact ⟨by omega, by omega⟩
theorem okS_big {a : Od} (h : okS a) : bigT a = false := by
  have := most_top a
  exact decide_eq_false (by have := h.1; have := h.2; omega)
/-- The sum, with what is too large, in one. -/
theorem addC_eq {a b : Od} (ka : okS a) : addC a b = chk (addO a b) := by
  cases b with
  | nil =>
    show some a = _
    rw [addO_nil']
    unfold chk
    rw [okS_big ka]; rfl
  | cons be bc br => rfl
theorem addC_assoc {a b c s t : Od} (ha : NF a) (hb : NF b) (hc : NF c) (ka : okS a) (kb : okS b) (kc : okS c) (h1 : addC a b = some s) (h2 : addC b c = some t) : addC s c = addC a t := by
  obtain ⟨e1, k1⟩ := addC_spec ka kb h1
  obtain ⟨e2, k2⟩ := addC_spec kb kc h2
  rw [addC_eq k1, addC_eq ka, e1, e2, addO_assoc ha hb hc]
theorem lim_hd {o : Od} (hN : NF o) (h : kindO o = 2) : ∃ e c r, o = .cons e c r ∧ e ≠ .nil := by
  cases o with
  | nil => simp [kindO] at h
  | cons e c r =>
    refine ⟨e, c, r, rfl, fun he => ?_⟩
    subst he
    have hr := hd_nil hN.2.2.2
    subst hr
    simp [kindO] at h
theorem fin_absorb {o : Od} {m : Nat} (hN : NF o) (h : kindO o = 2) : addO (ptO .nil m .nil) o = o := by
  obtain ⟨e, c, r, rfl, he⟩ := lim_hd hN h
  unfold ptO
  split
  · rename_i hm
    refine addO_lt ⟨trivial, hm, trivial, trivial⟩ ?_
    cases e with
    | nil => exact absurd rfl he
    | cons _ _ _ => exact nil_lt
  · rw [addO_nil]
end Go.Proofs.YtcmjlmnfdncajaaGreatDoor.TW
namespace Go.Proofs.YtcmjlmnfdncajaaGreatDoor.VW
open Go Go.RowKit
section
variable {P : Program} [hT : Tab P] {n : Nat} {ds : List Deferred} {Φ : Post} {k : List It} {ρ : E} {w : World} {all : Array Oper} {l : List Oper} {md : Option (List Oper)} {s : Nat} {F : World → Prop} {π : List (Nat × Nat)} {L : List Bool}
/-- An element of an array in a block that stands. -/
theorem x_A {i1 i2 d1 d2 t e t' t2 b i len : Nat} {o1 o2 : Oper} {x y : Operand} {cs : Array Value} {v : Value} {w0 : World} {c1 c2 : Bool} (e1 : all[i1]? = some o1 := by exact rfl) (h1 : o1.op = .indexAddr t x y := by exact rfl) (hd1 : o1.dst = some d1 := by exact rfl) (hg1 : gdB all ρ o1.guard = some c1 := by exact rfl) (hc1 : c1 = true := by exact rfl) (e2 : all[i2]? = some o2 := by exact rfl) (h2 : o2.op = .load t' (.tmp d1) := by exact rfl) (hd2 : o2.dst = some d2 := by exact rfl) (hg2 : ∀ p, gdB all ((d1, .pointer p) :: ρ) o2.guard = some c2 := by exact fun _ => rfl) (hc2 : c2 = true := by exact rfl)
    (ht : tyD P t = some (.array len e) := by exact rfl) (hs : tyS P e = some 1 := by exact rfl) (ha : tyAgg P t' = some false := by exact rfl) (hx : ev ρ x = some (.pointer (some ⟨b, 0, none⟩)) := by exact rfl) (hy : ev ρ y = some (.int .i64 (i : Int)) := by exact rfl) (hb : Blk w0 b cs t2 := by assumption) (hF : ∀ w, F w → Below w0.heap.size w0 w := by first | exact fun _ h => h | (intro _ h; exact Below.via (by assumption) h)) (hi : i < len := by omega) (hn : nth cs.toList i = some v := by exact rfl)
    (kk : ∀ p, OrdA P n ds all k Φ s F π ((L.set i1 true).set i2 true) ((d2, v) :: (d1, p) :: ρ)) : OrdA P n ds all k Φ s F ((i1, 1) :: (i2, 2) :: π) L ρ := by
  refine OrdA.pure e1 hd1 hg1 hc1 (fun w => EV.idxP h1 ht hs hx hy (by omega) (by omega)) ?_
  have e : (⟨b, 0, none⟩ : Addr).add ((i : Int).toNat * 1) = ⟨b, i, none⟩ := by rw [add_lit]; simp
  rw [e]
  exact OrdA.read e2 hd2 (hg2 _) hc2 (fun w hw => EV.ld h2 ha (ev_top _ _ _) ((hb.kp (Kp.of_below (S := fun _ => False) (hF w hw)) (fun e => e)).cell (by rw [nth_eq] at hn; simpa using hn))) (kk _)
end
end Go.Proofs.YtcmjlmnfdncajaaGreatDoor.VW
namespace Go.Proofs.YtcmjlmnfdncajaaGreatDoor
open Go Go.RowKit Go.Proofs.YtcmjlmnfdncajaaGreatDoor.VW Go.Proofs.YtcmjlmnfdncajaaGreatDoor.TW
attribute [local irreducible] W Ops OrdA VW.Ord OrdX Wi OpsI OrdF
theorem bothR_ok {G : Od → Od → Except Int Od} {a b : Od} (ha : rdA (txO a) = some a) (hb : rdA (txO b) = some b) : bothR G (txO a) (txO b) = (G a b).map txO := by
  unfold bothR
  rw [ha, hb]
theorem ordS_tx (s : List UInt8) : rdA (txO (ordS s)) = some (ordS s) ∧ (txO (ordS s)).length ≤ 4294967295 ∧ NF (ordS s) ∧ okS (ordS s) ∧ mostO (ordS s) ≤ 24 ∧ szO (ordS s) ≤ 39 := by
  obtain ⟨q1, q2, q3⟩ := ordS_ok s
  have := txO_len (o := ordS s) (by omega)
  exact ⟨rdA_ordS s, by omega, q1, ⟨by omega, by omega⟩, q2, q3⟩
theorem tx_bd {a : Od} (h : okS a) : (txO a).length ≤ 4294967295 := by
  have := txO_len (o := a) (by have := h.1; omega)
  have := h.2
  omega
theorem eM_some {o : Od} : outE ((fullG (some o)).map txO) = 0 ∧ outS ((fullG (some o)).map txO) = txO o := ⟨rfl, rfl⟩
theorem eM_none : outE ((fullG none).map txO) = 5 ∧ outS ((fullG none).map txO) = [] := ⟨rfl, rfl⟩
theorem Compare_tx {w : World} {a b : Od} (ha : rdA (txO a) = some a) (hb : rdA (txO b) = some b) (la : (txO a).length ≤ 4294967295) (lb : (txO b).length ≤ 4294967295) :
    Calls Tryz.prog 20 #[S (txO a), S (txO b)] w (Ret fun r w' => r = .tuple #[.int .i64 (cmpO a b), .int .i64 0] ∧ Below w.heap.size w w') := by
  have h := Compare_c (w := w) la lb
  rw [cmpR_ok ha hb] at h
  exact h
theorem Sum_tx {w : World} {a b : Od} (ha : rdA (txO a) = some a) (hb : rdA (txO b) = some b) (la : (txO a).length ≤ 4294967295) (lb : (txO b).length ≤ 4294967295) (hT : Tbl w) :
    Calls Tryz.prog 21 #[S (txO a), S (txO b)] w (Ret fun r w' => r = .tuple #[S (outS ((fullG (addC a b)).map txO)), .int .i64 (outE ((fullG (addC a b)).map txO))] ∧ Below w.heap.size w w') := by
  have h := Sum_c (w := w) la lb hT
  rw [bothR_ok ha hb] at h
  exact h
theorem tx_dec {a b : Od} (ra : rdA (txO a) = some a) (rb : rdA (txO b) = some b) : decide (txO a = txO b) = (cmpO a b == 0) := by
  rw [Bool.eq_iff_iff]
  simp only [decide_eq_true_eq, beq_iff_eq]
  exact ⟨fun h => cmp_zero.2 (txO_inj ra rb h), fun h => by rw [cmp_zero.1 h]⟩
set_option maxHeartbeats 8000000 in
theorem ordered_c {w : World} {l0 l1 l2 : List UInt8} (hT : Tbl w) : Calls Tryz.prog 4 #[.agg #[S l0, S l1, S l2]] w (Ret fun r w' => r = .bool true ∧ Below w.heap.size w w') := by
  obtain ⟨ra, la, na, oa, ma, za⟩ := ordS_tx l0
  obtain ⟨rb, lb, nb, ob, mb, zb⟩ := ordS_tx l1
  obtain ⟨rc, lc, nc, oc, mc, zc⟩ := ordS_tx l2
  generalize ha : ordS l0 = a at *
  generalize hb : ordS l1 = b at *
  generalize hc : ordS l2 = c at *
  refine calls_W (vs := [_]) Tryz.func4 rfl (by kernel_rfl) rfl ?_
  (repeat (first | with_reducible refine W.seq ?_ | with_reducible refine W.region ?_))
  refine Ops.box rfl rfl rfl rfl (fun w1 b1 hM1 => ?_)
  have B1 : Blk w1 b1 #[S l0, S l1, S l2] 33 := hM1.at_
  have hb01 := Mk.bel hM1
  (repeat (first | with_reducible refine W.seq ?_ | with_reducible refine Ops.nil ?_ | refine z_p (kk := ?_)))
  refine W.ordA 99 [(0, 1), (1, 2), (2, 2), (3, 1), (4, 2), (5, 2), (6, 1), (7, 2), (8, 2), (9, 1), (10, 1), (11, 1)] rfl (by kernel_rfl) rfl (by kernel_rfl) (fun _ _ _ h => h) ?_
  refine x_A (i := 0) (kk := fun _ => ?_)
  refine OrdA.call rfl rfl rfl rfl rfl rfl rfl (fun w' hw' => Calls.via hw' (ordS_c (s := l0))) ?_
  refine x_A (i := 1) (kk := fun _ => ?_)
  refine OrdA.call rfl rfl rfl rfl rfl rfl rfl (fun w' hw' => Calls.via hw' (ordS_c (s := l1))) ?_
  refine x_A (i := 2) (kk := fun _ => ?_)
  refine OrdA.call rfl rfl rfl rfl rfl rfl rfl (fun w' hw' => Calls.via hw' (ordS_c (s := l2))) ?_
  rw [ha, hb, hc]
  (repeat (first | refine x_p (kk := ?_)))
  refine OrdA.nil (fun w2 hb12 => ?_)
  have hb02 := Below.via hb01 hb12
  (repeat (first | with_reducible refine W.seq ?_ | with_reducible refine W.region ?_ | refine z_p (kk := ?_)))
  refine Ops.call rfl rfl rfl rfl rfl (Compare_tx ra rb la lb) (fun r w3 hR => ?_)
  obtain ⟨rfl, hb23⟩ := hR
  have hb03 := Below.via hb02 hb23
  (repeat (first | with_reducible refine W.seq ?_ | with_reducible refine Ops.nil ?_ | with_reducible refine W.region ?_ | refine z_p (kk := ?_)))
  refine Ops.call rfl rfl rfl rfl rfl (Compare_tx rb ra lb la) (fun r w4 hR => ?_)
  obtain ⟨rfl, hb34⟩ := hR
  have hb04 := Below.via hb03 hb34
  (repeat (first | with_reducible refine W.seq ?_ | with_reducible refine Ops.nil ?_ | with_reducible refine W.region ?_ | refine z_p (kk := ?_)))
  refine Ops.call rfl rfl rfl rfl rfl (Compare_tx rb rc lb lc) (fun r w5 hR => ?_)
  obtain ⟨rfl, hb45⟩ := hR
  have hb05 := Below.via hb04 hb45
  (repeat (first | with_reducible refine W.seq ?_ | with_reducible refine Ops.nil ?_ | with_reducible refine W.region ?_ | refine z_p (kk := ?_)))
  refine Ops.call rfl rfl rfl rfl rfl (Compare_tx ra rc la lc) (fun r w6 hR => ?_)
  obtain ⟨rfl, hb56⟩ := hR
  have hb06 := Below.via hb05 hb56
  have hX := cmp_rng a b
  have hY := cmp_swap a b
  have hZ := cmp_rng b c
  have hW := cmp_rng a c
  have htr := cmp_trans a b c
  have hd := tx_dec ra rb
  rw [hY]
  generalize cmpO a b = X at *
  generalize cmpO b c = Z at *
  generalize cmpO a c = V at *
  refine Ops.cut (fun ρ w' => ρ = [(3, S (txO a)), (4, S (txO b)), (5, S (txO c)), (6, .int .i64 X), (7, .int .i64 0), (8, .int .i64 (-X)), (9, .int .i64 0), (10, .int .i64 Z), (11, .int .i64 0), (12, .int .i64 V), (13, .int .i64 0)] ∧ w' = w6) ?_ ?_
  · (repeat (first | with_reducible refine Ops.nil ?_ | refine z_p (kk := ?_)))
    exact W.endl ⟨_, ⟨rfl, rfl⟩, (by repeat (first | exact trivial | refine And.intro rfl ?_))⟩
  rintro ρ w6' ⟨rfl, rfl⟩
  refine W.seq ?_
  refine W.cut (fun ρ w' => ρ = [(3, S (txO a)), (4, S (txO b)), (5, S (txO c))] ∧ w' = w6') ?_ ?_
  · (repeat (first | with_reducible refine W.seq ?_ | with_reducible refine W.region ?_ | refine z_p (kk := ?_) | refine z_a (kk := ?_) | refine z_y (kk := ?_) | refine z_E (kk := ?_) | refine z_ev (EV.seq rfl rfl rfl rfl) (kk := ?_) | refine z_h (kk := ?_)))
    by_cases h1 : X ≤ 0
    · by_cases h2 : Z ≤ 0
      · obtain ⟨t1, t2⟩ := htr h1 h2
        by_cases h3 : V = 0
        · have h4 : ¬ X + Z < 0 := fun h => by have := t2 (by omega); omega
          (repeat (first | with_reducible refine Ops.nil ?_ | refine z_p (kk := ?_) | refine z_a (kk := ?_) | refine z_y (kk := ?_) | refine z_h (kk := ?_)))
          refine W.condF rfl (by first | rfl | (simp; done) | (simp; omega)) ?_
          (repeat (first | with_reducible refine W.skip ?_))
          exact W.endl ⟨_, ⟨rfl, rfl⟩, (by repeat (first | exact trivial | refine And.intro rfl ?_))⟩
        · (repeat (first | with_reducible refine Ops.nil ?_ | refine z_p (kk := ?_) | refine z_y (kk := ?_) | refine z_n (kk := ?_) | refine z_g (kk := ?_) | refine z_h (kk := ?_)))
          refine W.condF rfl (by first | rfl | (simp; done) | (simp; omega)) ?_
          (repeat (first | with_reducible refine W.skip ?_))
          exact W.endl ⟨_, ⟨rfl, rfl⟩, (by repeat (first | exact trivial | refine And.intro rfl ?_))⟩
      · (repeat (first | with_reducible refine Ops.nil ?_ | refine z_p (kk := ?_) | refine z_y (kk := ?_) | refine z_n (kk := ?_) | refine z_u (kk := ?_) | refine z_g (kk := ?_) | refine z_h (kk := ?_)))
        refine W.condF rfl (by first | rfl | (simp; done) | (simp; omega)) ?_
        (repeat (first | with_reducible refine W.skip ?_))
        exact W.endl ⟨_, ⟨rfl, rfl⟩, (by repeat (first | exact trivial | refine And.intro rfl ?_))⟩
    · (repeat (first | with_reducible refine Ops.nil ?_ | refine z_p (kk := ?_) | refine z_y (kk := ?_) | refine z_n (kk := ?_) | refine z_u (kk := ?_) | refine z_g (kk := ?_)))
      refine W.condF rfl (by first | rfl | (simp; done) | (simp; omega)) ?_
      (repeat (first | with_reducible refine W.skip ?_))
      exact W.endl ⟨_, ⟨rfl, rfl⟩, (by repeat (first | exact trivial | refine And.intro rfl ?_))⟩
  rintro ρ w6 ⟨rfl, rfl⟩
  clear hd htr hX hY hZ hW
  (repeat (first | with_reducible refine W.seq ?_ | with_reducible refine W.region ?_ | refine z_p (kk := ?_)))
  refine Ops.call rfl rfl rfl rfl rfl (Sum_tx ra rb la lb (hT.below hb06)) (fun r w7 hR => ?_)
  obtain ⟨rfl, hb67⟩ := hR
  have hb07 := Below.via hb06 hb67
  (repeat (first | with_reducible refine W.seq ?_ | with_reducible refine Ops.nil ?_ | with_reducible refine W.region ?_ | refine z_p (kk := ?_)))
  refine Ops.call rfl rfl rfl rfl rfl (Sum_tx rb rc lb lc (hT.below hb07)) (fun r w8 hR => ?_)
  obtain ⟨rfl, hb78⟩ := hR
  have hb08 := Below.via hb07 hb78
  cases hs : addC a b with
  | none =>
    rw [eM_none.1, eM_none.2]
    cases ht : addC b c with
    | none =>
      rw [eM_none.1, eM_none.2]
      (repeat (first | with_reducible refine W.seq ?_ | with_reducible refine Ops.nil ?_ | with_reducible refine W.region ?_ | refine z_p (kk := ?_) | refine z_n (kk := ?_)))
      refine W.condT rfl (by first | rfl | assumption | (simp only [bnf] <;> omega) | (simp only [*, bnf]; done) | fail) ?_
      (repeat (first | with_reducible refine W.seq ?_ | with_reducible refine W.region ?_ | refine z_p (kk := ?_) | refine z_y (kk := ?_)))
      refine Ops.callS rfl rfl rfl rfl rfl (full_c _ _) ?_
      (repeat (first | refine z_p (kk := ?_) | refine z_y (kk := ?_)))
      refine Ops.callS rfl rfl rfl rfl rfl (full_c _ _) ?_
      (repeat (first | refine z_p (kk := ?_) | refine z_y (kk := ?_)))
      refine Ops.call rfl rfl rfl rfl rfl (awake_c (hT.below hb08)) (fun r wz hR => ?_)
      obtain ⟨rfl, hbz⟩ := hR
      (repeat (first | with_reducible refine Ops.nil ?_ | refine z_p (kk := ?_)))
      exact W.fret rfl ⟨rfl, Below.via hb08 hbz⟩
    | some t =>
      rw [eM_some.1, eM_some.2]
      (repeat (first | with_reducible refine W.seq ?_ | with_reducible refine Ops.nil ?_ | with_reducible refine W.region ?_ | refine z_p (kk := ?_) | refine z_n (kk := ?_)))
      refine W.condT rfl (by first | rfl | assumption | (simp only [bnf] <;> omega) | (simp only [*, bnf]; done) | fail) ?_
      (repeat (first | with_reducible refine W.seq ?_ | with_reducible refine W.region ?_ | refine z_p (kk := ?_) | refine z_y (kk := ?_)))
      refine Ops.callS rfl rfl rfl rfl rfl (full_c _ _) ?_
      (repeat (first | refine z_p (kk := ?_) | refine z_y (kk := ?_) | refine z_n (kk := ?_)))
      refine Ops.call rfl rfl rfl rfl rfl (awake_c (hT.below hb08)) (fun r wz hR => ?_)
      obtain ⟨rfl, hbz⟩ := hR
      (repeat (first | with_reducible refine Ops.nil ?_ | refine z_p (kk := ?_)))
      exact W.fret rfl ⟨rfl, Below.via hb08 hbz⟩
  | some s =>
    rw [eM_some.1, eM_some.2]
    cases ht : addC b c with
    | none =>
      rw [eM_none.1, eM_none.2]
      (repeat (first | with_reducible refine W.seq ?_ | with_reducible refine Ops.nil ?_ | with_reducible refine W.region ?_ | refine z_p (kk := ?_) | refine z_y (kk := ?_)))
      refine W.condT rfl (by first | rfl | assumption | (simp only [bnf] <;> omega) | (simp only [*, bnf]; done) | fail) ?_
      (repeat (first | with_reducible refine W.seq ?_ | with_reducible refine W.region ?_ | refine z_p (kk := ?_) | refine z_y (kk := ?_) | refine z_n (kk := ?_)))
      refine Ops.callS rfl rfl rfl rfl rfl (full_c _ _) ?_
      (repeat (first | refine z_p (kk := ?_) | refine z_y (kk := ?_)))
      refine Ops.call rfl rfl rfl rfl rfl (awake_c (hT.below hb08)) (fun r wz hR => ?_)
      obtain ⟨rfl, hbz⟩ := hR
      (repeat (first | with_reducible refine Ops.nil ?_ | refine z_p (kk := ?_)))
      exact W.fret rfl ⟨rfl, Below.via hb08 hbz⟩
    | some t =>
      rw [eM_some.1, eM_some.2]
      obtain ⟨e1, k1⟩ := addC_spec oa ob hs
      obtain ⟨e2, k2⟩ := addC_spec ob oc ht
      have has := addC_assoc na nb nc oa ob oc hs ht
      have rs : rdA (txO s) = some s := okS_rd (by rw [e1]; exact addO_NF na nb) k1
      have rt : rdA (txO t) = some t := okS_rd (by rw [e2]; exact addO_NF nb nc) k2
      (repeat (first | with_reducible refine W.seq ?_ | with_reducible refine Ops.nil ?_ | with_reducible refine W.region ?_ | refine z_p (kk := ?_) | refine z_y (kk := ?_)))
      refine W.condF rfl (by first | rfl | assumption | (simp only [bnf] <;> omega) | (simp only [*, bnf]; done) | fail) ?_
      (repeat (first | with_reducible refine W.seq ?_ | with_reducible refine W.region ?_ | refine z_p (kk := ?_) | with_reducible refine W.skip ?_))
      refine Ops.call rfl rfl rfl rfl rfl (Sum_tx rs rc (tx_bd k1) lc (hT.below hb08)) (fun r w9 hR => ?_)
      obtain ⟨rfl, hb89⟩ := hR
      have hb09 := Below.via hb08 hb89
      (repeat (first | with_reducible refine W.seq ?_ | with_reducible refine Ops.nil ?_ | with_reducible refine W.region ?_ | refine z_p (kk := ?_)))
      refine Ops.call rfl rfl rfl rfl rfl (Sum_tx ra rt la (tx_bd k2) (hT.below hb09)) (fun r w10 hR => ?_)
      obtain ⟨rfl, hb910⟩ := hR
      have hb010 := Below.via hb09 hb910
      rw [has]
      cases hu : addC a t with
      | none =>
        rw [eM_none.1, eM_none.2]
        (repeat (first | with_reducible refine W.seq ?_ | with_reducible refine Ops.nil ?_ | with_reducible refine W.region ?_ | refine z_p (kk := ?_) | refine z_y (kk := ?_) | refine z_ev (EV.seq rfl rfl rfl rfl) (kk := ?_)))
        refine Ops.callS rfl rfl rfl rfl rfl (full_c _ _) ?_
        (repeat (first | refine z_p (kk := ?_) | refine z_y (kk := ?_)))
        refine Ops.call rfl rfl rfl rfl rfl (awake_c (hT.below hb010)) (fun r wz hR => ?_)
        obtain ⟨rfl, hbz⟩ := hR
        (repeat (first | with_reducible refine Ops.nil ?_ | refine z_p (kk := ?_)))
        exact W.fret rfl ⟨rfl, Below.via hb010 hbz⟩
      | some u =>
        rw [eM_some.1, eM_some.2]
        (repeat (first | with_reducible refine W.seq ?_ | with_reducible refine Ops.nil ?_ | with_reducible refine W.region ?_ | refine z_p (kk := ?_) | refine z_y (kk := ?_) | refine z_n (kk := ?_) | refine z_ev (EV.seq rfl rfl rfl rfl) (kk := ?_) | refine z_h (kk := ?_)))
        refine Ops.call rfl rfl rfl rfl rfl (awake_c (hT.below hb010)) (fun r wz hR => ?_)
        obtain ⟨rfl, hbz⟩ := hR
        (repeat (first | with_reducible refine Ops.nil ?_ | refine z_p (kk := ?_)))
        exact W.fret rfl ⟨rfl, Below.via hb010 hbz⟩
end Go.Proofs.YtcmjlmnfdncajaaGreatDoor
namespace Go.Proofs.YtcmjlmnfdncajaaGreatDoor
open Go Go.RowKit Go.Proofs.YtcmjlmnfdncajaaGreatDoor.VW Go.Proofs.YtcmjlmnfdncajaaGreatDoor.TW
attribute [local irreducible] W Ops OrdA VW.Ord OrdX Wi OpsI OrdF
def kindR (s : List UInt8) : Except Int Nat := match rdA s with
  | none => .error 4
  | some a => .ok (kindO a)
def outK : Except Int Nat → Int
  | .ok x => (x : Int)
  | .error _ => 0
theorem Kind1_c {w : World} {b0 b3 : Nat} {s : List UInt8} (hs : s.length ≤ 4294967295) (B0 : Blk w b0 #[S s] 9) (B3 : Blk w b3 #[.int .i64 0] 3) :
    Calls Tryz.prog 74 #[.pointer (some ⟨b0, 0, none⟩), .pointer (some ⟨b3, 0, none⟩)] w
      (RetP (fun _ w' => Kp (fun i => i = b3) w w' ∧ ∃ x, kindR s = .ok x ∧ Blk w' b3 #[.int .i64 (x : Int)] 3) (fun ch w' => ∃ e, ch = trb e ∧ Kp (fun i => i = b3) w w' ∧ kindR s = .error e ∧ Kp (fun _ => False) w w')) := by
  refine calls_WP (vs := [_, _]) Tryz.func74 rfl (by kernel_rfl) rfl ?_
  (repeat (first | with_reducible refine W.region ?_ | refine z_d (kk := ?_)))
  refine Ops.callP rfl rfl rfl rfl rfl (readOrdinal_c hs) (fun va w1 hR => ?_) (fun ch w1 hR => ?_)
  rotate_left
  · obtain ⟨rfl, h1, hb1⟩ := hR
    exact ⟨4, rfl, (kpF hb1).mono (fun _ _ e => e.elim), by unfold kindR; rw [h1], kpF hb1⟩
  obtain ⟨a, ha, hA, hb1⟩ := hR
  have B31 := B3.kp (kpF hb1) (fun e => e)
  skip
  refine Ops.callS rfl rfl rfl rfl rfl (kind_c hA) ?_
  refine Ops.st rfl rfl rfl rfl rfl rfl rfl B31 (by simp) (fun w4 hu => ?_)
  (repeat (first | with_reducible refine Ops.nil ?_))
  refine W.fendP rfl ⟨((kpF hb1).trans hu.kp).mono (fun _ _ e => by rcases e with e | e; exact e.elim; exact e), kindO a, ?_, by simpa using hu.blk⟩
  unfold kindR
  rw [ha]
theorem Kind_c {w : World} {s : List UInt8} (hs : s.length ≤ 4294967295) :
    Calls Tryz.prog 24 #[S s] w (Ret fun r w' => r = .tuple #[.int .i64 (outK (kindR s)), .int .i64 (outE (kindR s))] ∧ Below w.heap.size w w') := by
  refine calls_W (vs := [_]) Tryz.func24 rfl (by kernel_rfl) rfl ?_
  (repeat (first | with_reducible refine W.seq ?_ | with_reducible refine W.region ?_))
  refine Ops.box rfl rfl rfl rfl (fun w1 b0 hM1 => ?_)
  refine Ops.alloc rfl rfl rfl rfl (fun w4 b3 hM4 => ?_)
  have hb14 := Mk.bel hM4
  have hb04 := Below.via (Mk.bel hM1) hb14
  have B0 : Blk w4 b0 #[S s] 9 := Blk.kp (w := w1) (hM1.at_) (kpF hb14) (fun e => e)
  have B3 : Blk w4 b3 #[.int .i64 0] 3 := hM4.at_
  have e3 := hM4.r_eq
  have l3 := B3.lt
  have hw03 := (Mk.bel hM1).size
  (repeat (first | with_reducible refine W.seq ?_ | with_reducible refine Ops.nil ?_ | with_reducible refine W.region ?_ | refine z_p (kk := ?_)))
  refine Ops.call rfl rfl rfl rfl rfl (guard_c (F := 74) (caps := [.pointer (some ⟨b0, 0, none⟩), .pointer (some ⟨b3, 0, none⟩)]) (T := fun i => i = b3) (N := fun _ w' => ∃ x, kindR s = .ok x ∧ Blk w' b3 #[.int .i64 (x : Int)] 3) (E' := fun w1 w' e => kindR s = .error e ∧ Kp (fun _ => False) w1 w') rfl (fun i h => by omega) (fun w5 hlt hb5 => Kind1_c hs (B0.kp (kpF hb5) (fun e => e)) (B3.kp (kpF hb5) (fun e => e)))) (fun r w' hR => ?_)
  obtain ⟨w5, w6, hlt, hb5, k56, k67, hor⟩ := hR
  have hfin : ∃ x e, x = outK (kindR s) ∧ e = outE (kindR s) ∧ r = .int .i64 e ∧ Blk w' b3 #[.int .i64 x] 3 := by
    rcases hor with ⟨rfl, x, h1, h2⟩ | ⟨e, rfl, h1, h2⟩
    · exact ⟨x, 0, by rw [h1]; rfl, by rw [h1]; rfl, rfl, h2.kp k67 (fun h => by omega)⟩
    · exact ⟨0, e, by rw [h1]; rfl, by rw [h1]; rfl, rfl, ((B3.kp (kpF hb5) (fun e => e)).kp h2 (fun e => e)).kp k67 (fun h => by omega)⟩
  obtain ⟨x, e, hx, he, rfl, B3'⟩ := hfin
  have hb0' : Below w.heap.size w w' := Below.put (Below.put (Below.via hb04 hb5) k56 (fun i h => by omega)) k67 (fun i h => by omega)
  have hbww : Below w'.heap.size w' w' := Below.refl _ _
  rw [← hx, ← he]
  (repeat (first | with_reducible refine W.seq ?_ | with_reducible refine Ops.nil ?_ | with_reducible refine W.region ?_ | refine z_p (kk := ?_) | refine z_d (kk := ?_)))
  refine Ops.st rfl rfl rfl rfl rfl rfl rfl B3' (by simp) (fun w7 hu => ?_)
  have B7 : Blk w7 b3 #[.int .i64 x] 3 := by simpa using hu.blk
  (repeat (first | with_reducible refine Ops.nil ?_ | refine z_p (kk := ?_)))
  exact W.fretW (vs := [_, _]) ⟨_, _, rfl, ⟨b3, 0, _, 3, rfl, rfl, B7, rfl⟩, _, _, rfl, rfl, rfl⟩ ⟨rfl, Below.put hb0' hu.kp (fun i h => by omega)⟩
def stepR (s : List UInt8) (n : Int) : Except Int (List UInt8) := match rdA s with
  | none => .error 4
  | some a => if 0 ≤ n ∧ n ≤ 1000 then (if kindO a = 0 then .error 6 else if bigT (stepO a n.toNat) = true then .error 5 else .ok (txO (stepO a n.toNat))) else .error 2
set_option maxHeartbeats 2000000 in
theorem Step1_c {w : World} {b0 b1 b3 : Nat} {s : List UInt8} {n : Int} (hs : s.length ≤ 4294967295) (hT : Tbl w) (B0 : Blk w b0 #[S s] 9) (B1 : Blk w b1 #[.int .i64 n] 3) (B3 : Blk w b3 #[S []] 9) :
    Calls Tryz.prog 76 #[.pointer (some ⟨b0, 0, none⟩), .pointer (some ⟨b1, 0, none⟩), .pointer (some ⟨b3, 0, none⟩)] w
      (RetP (fun _ w' => Kp (fun i => i = b3) w w' ∧ ∃ x, stepR s n = .ok x ∧ Blk w' b3 #[S x] 9) (fun ch w' => ∃ e, ch = trb e ∧ Kp (fun i => i = b3) w w' ∧ stepR s n = .error e ∧ Kp (fun _ => False) w w')) := by
  refine calls_WP (vs := [_, _, _]) Tryz.func76 rfl (by kernel_rfl) rfl ?_
  (repeat (first | with_reducible refine W.seq ?_ | with_reducible refine W.region ?_ | refine z_d (kk := ?_)))
  refine Ops.callP rfl rfl rfl rfl rfl (readOrdinal_c hs) (fun va w1 hR => ?_) (fun ch w1 hR => ?_)
  rotate_left
  · obtain ⟨rfl, h1, hb1⟩ := hR
    exact ⟨4, rfl, (kpF hb1).mono (fun _ _ e => e.elim), by unfold stepR; rw [h1], kpF hb1⟩
  obtain ⟨a, ha, hA, hb1⟩ := hR
  obtain ⟨na, sa, za⟩ := rdA_spec ha
  have B11 := B1.kp (kpF hb1) (fun e => e)
  have B31 := B3.kp (kpF hb1) (fun e => e)
  have hdef : stepR s n = if 0 ≤ n ∧ n ≤ 1000 then (if kindO a = 0 then .error 6 else if bigT (stepO a n.toNat) = true then .error 5 else .ok (txO (stepO a n.toNat))) else .error 2 := by unfold stepR; rw [ha]
  have hb11 : Below w1.heap.size w1 w1 := Below.refl _ _
  (repeat (first | with_reducible refine W.seq ?_ | with_reducible refine Ops.nil ?_ | with_reducible refine W.region ?_ | refine z_p (kk := ?_) | refine z_d (kk := ?_)))
  refine Ops.callS rfl rfl rfl rfl rfl (within_c _ _ _ _) ?_
  skip
  refine Ops.callP rfl rfl rfl rfl rfl (demand_c _ _ _) (fun r w2 hR => ?_) (fun ch w2 hR => ?_)
  rotate_left
  · obtain ⟨hb, rfl, rfl⟩ := hR
    have h2 := of_decide_eq_false hb
    exact ⟨2, rfl, (kpF hb1).mono (fun _ _ e => e.elim), by rw [hdef, if_neg h2], kpF hb1⟩
  obtain ⟨hb, hw⟩ := hR
  subst w2
  have h2 := of_decide_eq_true hb
  clear hb
  rw [if_pos h2] at hdef
  obtain ⟨m, rfl⟩ : ∃ m : Nat, n = (m : Int) := ⟨n.toNat, by omega⟩
  rw [Int.toNat_natCast] at hdef
  obtain ⟨l, hRl, hAl⟩ := id hA
  have hll := hAl.len
  obtain ⟨A, c, rfl⟩ := hRl.sh
  (repeat (first | with_reducible refine W.seq ?_ | with_reducible refine Ops.nil ?_ | with_reducible refine W.region ?_ | refine z_p (kk := ?_) | refine z_l (kk := ?_)))
  refine Ops.callP rfl rfl rfl rfl rfl (demand_c _ _ _) (fun r w2 hR => ?_) (fun ch w2 hR => ?_)
  rotate_left
  · obtain ⟨hb, rfl, rfl⟩ := hR
    have h3 := of_decide_eq_false hb
    exact ⟨6, rfl, (kpF hb1).mono (fun _ _ e => e.elim), by rw [hdef, if_pos (kind_zero.2 (lenO_zero.1 (by omega)))], kpF hb1⟩
  obtain ⟨hb, hw⟩ := hR
  subst w2
  have h3 := of_decide_eq_true hb
  clear hb
  have hne : a ≠ .nil := fun e => by have := lenO_zero.2 e; omega
  rw [if_neg (fun h => hne (kind_zero.1 h))] at hdef
  have hmo := small_most sa
  have hsm := step_most a m
  have hss := step_sz a m
  have hsq : szO a * (szO a + 1) ≤ 60 * 61 := Nat.mul_le_mul za (by omega)
  (repeat (first | with_reducible refine Ops.nil ?_ | with_reducible refine W.region ?_ | refine z_p (kk := ?_) | refine z_d (kk := ?_)))
  refine Ops.call rfl rfl rfl rfl rfl (step_c _ (S' := fun i => i < w.heap.size) (Nat.le_refl _) (by omega) hne (by omega) (by omega) (fun i hi => by have := hb1.size; omega) hA) (fun v2 w2 hR => ?_)
  obtain ⟨hM2, hb2⟩ := hR
  have hb02 := Below.via hb1 hb2
  skip
  refine Ops.callP rfl rfl rfl rfl rfl (checked_c hM2 (by omega)) (fun vc w3 hR => ?_) (fun ch w3 hR => ?_)
  rotate_left
  · obtain ⟨rfl, hbig, hb3⟩ := hR
    have k03 : Kp (fun _ => False) w w3 := kpF (Below.via hb02 hb3)
    exact ⟨5, rfl, k03.mono (fun _ _ e => e.elim), by rw [hdef, if_pos hbig], k03⟩
  obtain ⟨rfl, hbig, hb3⟩ := hR
  have hb03 := Below.via hb02 hb3
  refine Ops.call rfl rfl rfl rfl rfl (text_c _ (Nat.le_refl _) (by omega) (by omega) (hT.below hb03) (hM2.below hb3)) (fun vt w4 hR => ?_)
  obtain ⟨rfl, hb4⟩ := hR
  have hb04 := Below.via hb03 hb4
  have B34 := B3.kp (kpF hb04) (fun e => e)
  refine Ops.st rfl rfl rfl rfl rfl rfl rfl B34 (by simp) (fun w5 hu => ?_)
  (repeat (first | with_reducible refine Ops.nil ?_))
  refine W.fendP rfl ⟨((kpF hb04).trans hu.kp).mono (fun _ _ e => by rcases e with e | e; exact e.elim; exact e), txO (stepO a m), by rw [hdef, if_neg (by rw [hbig]; simp)], by simpa using hu.blk⟩
theorem Step_c {w : World} {s : List UInt8} {n : Int} (hs : s.length ≤ 4294967295) (hT : Tbl w) :
    Calls Tryz.prog 25 #[S s, .int .i64 n] w (Ret fun r w' => r = .tuple #[S (outS (stepR s n)), .int .i64 (outE (stepR s n))] ∧ Below w.heap.size w w') := by
  refine calls_W (vs := [_, _]) Tryz.func25 rfl (by kernel_rfl) rfl ?_
  (repeat (first | with_reducible refine W.seq ?_ | with_reducible refine W.region ?_))
  refine Ops.box rfl rfl rfl rfl (fun w1 b0 hM1 => ?_)
  refine Ops.box rfl rfl rfl rfl (fun w2 b1 hM2 => ?_)
  refine Ops.alloc rfl rfl rfl rfl (fun w4 b3 hM4 => ?_)
  have hb24 := Mk.bel hM4
  have hb14 := Below.via (Mk.bel hM2) hb24
  have hb04 := Below.via (Mk.bel hM1) hb14
  have B0 : Blk w4 b0 #[S s] 9 := Blk.kp (w := w1) (hM1.at_) (kpF hb14) (fun e => e)
  have B1 : Blk w4 b1 #[.int .i64 n] 3 := Blk.kp (w := w2) (hM2.at_) (kpF hb24) (fun e => e)
  have B3 : Blk w4 b3 #[S []] 9 := hM4.at_
  have e3 := hM4.r_eq
  have s1 := hM1.size
  have s2 := hM2.size
  have s4 := hM4.size
  (repeat (first | with_reducible refine W.seq ?_ | with_reducible refine Ops.nil ?_ | with_reducible refine W.region ?_ | refine z_p (kk := ?_)))
  refine Ops.call rfl rfl rfl rfl rfl (guard_c (F := 76) (caps := [.pointer (some ⟨b0, 0, none⟩), .pointer (some ⟨b1, 0, none⟩), .pointer (some ⟨b3, 0, none⟩)]) (T := fun i => i = b3) (N := fun w1 w' => ∃ x, stepR s n = .ok x ∧ Blk w' b3 #[S x] 9) (E' := fun w1 w' e => stepR s n = .error e ∧ Kp (fun _ => False) w1 w') rfl (fun i h => by omega) (fun w5 hlt hb5 => Step1_c hs (hT.below (Below.via hb04 hb5)) (B0.kp (kpF hb5) (fun e => e)) (B1.kp (kpF hb5) (fun e => e)) (B3.kp (kpF hb5) (fun e => e)))) (fun r w' hR => ?_)
  obtain ⟨w5, w6, hlt, hb5, k56, k67, hor⟩ := hR
  have hfin : ∃ x e, x = outS (stepR s n) ∧ e = outE (stepR s n) ∧ r = .int .i64 e ∧ Blk w' b3 #[S x] 9 := by
    rcases hor with ⟨rfl, x, h1, h2⟩ | ⟨e, rfl, h1, h2⟩
    · exact ⟨x, 0, by rw [h1]; rfl, by rw [h1]; rfl, rfl, h2.kp k67 (fun h => by omega)⟩
    · exact ⟨[], e, by rw [h1]; rfl, by rw [h1]; rfl, rfl, ((B3.kp (kpF hb5) (fun e => e)).kp h2 (fun e => e)).kp k67 (fun h => by omega)⟩
  obtain ⟨x, e, hx, he, rfl, B3'⟩ := hfin
  have hb0' : Below w.heap.size w w' := Below.put (Below.put (Below.via hb04 hb5) k56 (fun i h => by omega)) k67 (fun i h => by omega)
  have hbww : Below w'.heap.size w' w' := Below.refl _ _
  rw [← hx, ← he]
  (repeat (first | with_reducible refine W.seq ?_ | with_reducible refine Ops.nil ?_ | with_reducible refine W.region ?_ | refine z_p (kk := ?_) | refine z_d (kk := ?_)))
  refine Ops.st rfl rfl rfl rfl rfl rfl rfl B3' (by simp) (fun w7 hu => ?_)
  have B7 : Blk w7 b3 #[S x] 9 := by simpa using hu.blk
  (repeat (first | with_reducible refine Ops.nil ?_ | refine z_p (kk := ?_)))
  exact W.fretW (vs := [_, _]) ⟨_, _, rfl, ⟨b3, 0, _, 9, rfl, rfl, B7, rfl⟩, _, _, rfl, rfl, rfl⟩ ⟨rfl, Below.put hb0' hu.kp (fun i h => by omega)⟩
end Go.Proofs.YtcmjlmnfdncajaaGreatDoor
namespace Go.Proofs.YtcmjlmnfdncajaaGreatDoor
open Go Go.RowKit Go.Proofs.YtcmjlmnfdncajaaGreatDoor.VW Go.Proofs.YtcmjlmnfdncajaaGreatDoor.TW
attribute [local irreducible] W Ops OrdA VW.Ord OrdX Wi OpsI OrdF
/-- A list of one part, made, as a row of the call's own. -/
theorem own_lit2 {w w1 : World} {r c : Nat} {va : Value} (hM : Mk w w1 r (.cells #[va, .int .i64 (c : Int)] 119)) : w1.ownsRow 0 119 2 (.slice (some ⟨r, 0, none⟩) 1 1) 1 (fp2 pA pB [(va, c)]) :=
  ⟨by simp [fp2], .inr ⟨r, 1, #[va, .int .i64 (c : Int)], rfl, Nat.zero_le _, hM.at_, Nat.le_refl _, by simp [maxLen], by simp, by simp [fp2, pA, pB]⟩⟩
theorem demandT_c (e : Int) (w : World) : Calls Tryz.prog 62 #[.bool true, .int .i64 e] w (Ret fun r w' => r = .tuple #[] ∧ w' = w) := by
  refine calls_W (vs := [_, _]) Tryz.func62 rfl (by kernel_rfl) rfl ?_
  (repeat (first | with_reducible refine W.seq ?_ | with_reducible refine Ops.nil ?_ | with_reducible refine W.region ?_ | refine z_p (kk := ?_)))
  refine W.condF rfl (by first | rfl | assumption | (simp only [bnf] <;> omega) | (simp only [*, bnf]; done) | fail) ?_
  (repeat (first | with_reducible refine W.skip ?_))
  exact W.fend rfl ⟨rfl, rfl⟩
theorem rest_at {a b : Od} {i : Nat} (ha : i < lenO a) (hb : i < lenO b) : restO (dropO a i) (dropO b i) = if cmpO (nthE a i) (nthE b i) < 0 then some (dropO b i) else if cmpO (nthE a i) (nthE b i) = 0 ∧ nthC a i ≤ nthC b i then (if nthC a i < nthC b i then some (.cons (nthE b i) (nthC b i - nthC a i) (dropO b (i + 1))) else restO (dropO a (i + 1)) (dropO b (i + 1))) else none := by
  rw [dropO_cons ha, dropO_cons (o := b) hb, restO]
set_option maxHeartbeats 8000000 in
theorem rest_c {S' : Nat → Prop} {w : World} {va vb : Value} {a b : Od} (hS : ∀ i, S' i → i < w.heap.size) (hA : OM S' w va a) (hB : OM S' w vb b) (hza : szO a ≤ 100000) (hzb : szO b ≤ 100000) (hta : topO a ≤ 10000000) (htb : topO b ≤ 10000000) :
    Calls Tryz.prog 97 #[va, vb] w (RetP (fun r w' => ∃ o, restO a b = some o ∧ OM S' w' r o ∧ Below w.heap.size w w') (fun ch w' => ch = trb 6 ∧ restO a b = none ∧ Below w.heap.size w w')) := by
  obtain ⟨la, hRa, hAa⟩ := hA
  obtain ⟨lb, hRb, hAb⟩ := hB
  have hla := hAa.len
  have hlb := hAb.len
  have hza' := len_le_sz a
  have hzb' := len_le_sz b
  obtain ⟨Aa, ca, rfl⟩ := hRa.sh
  obtain ⟨Ab, cb, rfl⟩ := hRb.sh
  refine calls_WP (vs := [_, _]) Tryz.func97 rfl (by kernel_rfl) rfl ?_
  (repeat (first | with_reducible refine W.seq ?_ | with_reducible refine Ops.nil ?_ | with_reducible refine W.region ?_ | refine z_p (kk := ?_) | with_reducible refine W.block ?_ | refine z_l (kk := ?_)))
  refine W.loop (fun m ρ w3 => ∃ i : Nat, m = lb.length - i ∧ i ≤ lb.length ∧ i ≤ la.length ∧ ρ = [(0, .slice Aa la.length ca), (1, .slice Ab lb.length cb), (7, .slice Ab lb.length cb), (8, .int .i64 lb.length), (9, .int .i64 i)] ∧ Below w.heap.size w w3 ∧ restO a b = restO (dropO a i) (dropO b i))
    ⟨_, _, ⟨0, rfl, Nat.zero_le _, Nat.zero_le _, rfl, Below.refl _ _, by rw [dropO_zero, dropO_zero]⟩, (by repeat (first | exact trivial | refine And.intro rfl ?_))⟩ ?_
  rintro m ρ w3 ⟨i, rfl, hi, hia, rfl, hb03, heq⟩
  have hb33 : Below w3.heap.size w3 w3 := Below.refl _ _
  by_cases hil : i < lb.length
  · obtain ⟨b2, bM⟩ := hAb.at_ (i := i) (by omega)
    have hb1 := bM.one
    have htd := top_le htb (i := i) (by omega)
    generalize hvb : (lb.getD i default).1 = vb at *
    (repeat (first | with_reducible refine W.seq ?_ | with_reducible refine Ops.nil ?_ | with_reducible refine W.region ?_ | refine z_p (kk := ?_)))
    refine W.condT rfl (by first | rfl | assumption | (simp only [bnf] <;> omega) | (simp only [*, bnf]; done) | fail) ?_
    (repeat (first | with_reducible refine W.seq ?_ | with_reducible refine W.region ?_ | refine z_p (kk := ?_) | with_reducible refine W.skip ?_ | with_reducible refine W.block ?_ | refine z_R2 (kk := fun _ => ?_)))
    rw [hvb, b2]
    refine Ops.alloc rfl rfl rfl rfl (fun w4 b6 hM4 => ?_)
    (repeat (first | refine z_p (kk := ?_)))
    refine Ops.stN (vs := [vb, .int .i64 (nthC b i : Nat)]) (cs := [.slice none 0 0, .int .i64 0]) rfl rfl rfl rfl rfl rfl (by intro v hv; simp at hv; rcases hv with rfl | rfl; exact hb1; rfl) rfl hM4.at_ (fun w5 hu5 => ?_)
    have B5 : Blk w5 b6 #[vb, .int .i64 (nthC b i : Nat)] 119 := hu5.blk
    have e4 := hM4.r_eq
    have hb35 : Below w3.heap.size w3 w5 := Below.put (Mk.bel hM4) hu5.kp (fun k e => by omega)
    have hb05 := Below.via hb03 hb35
    have hb55 : Below w5.heap.size w5 w5 := Below.refl _ _
    have hRa5 := hRa.below hb05
    have hRb5 := hRb.below hb05
    clear hb33 hM4 hu5
    by_cases hend : i = la.length
    · have hd : dropO a i = .nil := by rw [hend, hla]; exact dropO_len a
      (repeat (first | with_reducible refine W.seq ?_ | with_reducible refine Ops.nil ?_))
      refine W.ordA 99 [(0, 1), (1, 1), (2, 1), (3, 1), (4, 1), (5, 1), (6, 1), (7, 1), (8, 1), (9, 2), (10, 1), (11, 2), (12, 2), (13, 1), (14, 1)] rfl (by kernel_rfl) rfl (by kernel_rfl) (fun _ _ _ h => h) ?_
      (repeat (first | refine x_p (kk := ?_) | refine x_n (kk := ?_) | refine x_l (kk := ?_) | refine x_t (kk := ?_)))
      refine OrdA.nil (fun w6 hb6 => ?_)
      have hb06 := Below.via hb05 hb6
      skip
      refine W.condT rfl (by first | rfl | assumption | (simp only [bnf] <;> omega) | (simp only [*, bnf]; done) | fail) ?_
      (repeat (first | with_reducible refine W.seq ?_ | with_reducible refine W.region ?_ | refine z_p (kk := ?_)))
      refine z_ev (EV.slP (q := i) rfl rfl rfl rfl rfl (by omega)) (kk := ?_)
      (repeat (first | with_reducible refine Ops.nil ?_ | refine z_p (kk := ?_)))
      refine W.fretP rfl ⟨dropO b i, by rw [heq, hd]; rfl, ⟨_, (hRb.slD (q := i) (by omega)).below hb06, (hAb.drop i).kp (kpF hb06) (fun _ e => e.elim)⟩, hb06⟩
    · have hil2 : i < la.length := by omega
      obtain ⟨a2, aM⟩ := hAa.at_ (i := i) (by omega)
      have ha1 := aM.one
      have htc := top_le hta (i := i) (by omega)
      rw [rest_at (by omega) (by omega)] at heq
      (repeat (first | with_reducible refine W.seq ?_ | with_reducible refine Ops.nil ?_))
      refine W.ordA 99 [(0, 1), (1, 1), (2, 1), (3, 1), (4, 1), (5, 1), (6, 1), (7, 1), (8, 1), (9, 2), (10, 1), (11, 2), (12, 2), (13, 1), (14, 1)] rfl (by kernel_rfl) rfl (by kernel_rfl) (fun _ _ _ h => h) ?_
      (repeat (first | refine x_p (kk := ?_) | refine x_l (kk := ?_)))
      (first | refine x_t (kk := ?_) | refine x_f (kk := ?_))
      (repeat (first | refine x_p (kk := ?_) | refine x_R0 (kk := fun _ _ => ?_) | refine x_f2 (kk := ?_) | refine x_D (kk := ?_)))
      refine OrdA.call rfl rfl rfl rfl rfl rfl rfl (fun w' hw' => Calls.via hw' (compare_c _ (Nat.le_refl _) (aM.below (Below.via hb05 hw')) (bM.below (Below.via hb05 hw')))) ?_
      (repeat (first | refine x_p (kk := ?_)))
      refine OrdA.nil (fun w6 hb6 => ?_)
      have hb06 := Below.via hb05 hb6
      have hb66 : Below w6.heap.size w6 w6 := Below.refl _ _
      have B6 := B5.kp (kpF hb6) (fun e => e)
      have hRa6 := hRa.below hb06
      have hRb6 := hRb.below hb06
      clear hRa5 hRb5 hb55 B5
      by_cases hlt : cmpO (nthE a i) (nthE b i) < 0
      · rw [if_pos hlt] at heq
        skip
        refine W.condT rfl (by first | rfl | (simp; done) | (simp; omega)) ?_
        (repeat (first | with_reducible refine W.seq ?_ | with_reducible refine W.region ?_ | refine z_p (kk := ?_)))
        refine z_ev (EV.slP (q := i) rfl rfl rfl rfl rfl (by omega)) (kk := ?_)
        (repeat (first | with_reducible refine Ops.nil ?_ | refine z_p (kk := ?_)))
        refine W.fretP rfl ⟨dropO b i, by rw [heq], ⟨_, (hRb.slD (q := i) (by omega)).below hb06, (hAb.drop i).kp (kpF hb06) (fun _ e => e.elim)⟩, hb06⟩
      · rw [if_neg hlt] at heq
        refine W.condF rfl (by first | rfl | (simp; done) | (simp; omega)) ?_
        (repeat (first | with_reducible refine W.seq ?_ | with_reducible refine W.skip ?_))
        refine W.ordA 19 [(0, 1), (1, 1), (2, 1), (3, 1), (4, 2), (5, 1), (6, 2), (7, 2), (8, 1), (9, 1), (10, 1), (11, 1), (12, 1), (13, 1), (14, 2), (15, 1), (16, 2), (17, 1), (18, 1), (19, 0)] rfl (by kernel_rfl) rfl (by kernel_rfl) (fun _ _ _ h => h) ?_
        (repeat (first | refine x_p (kk := ?_) | refine x_R0 (kk := fun _ _ => ?_) | refine x_f2 (kk := ?_) | refine x_D (kk := ?_)))
        refine OrdA.call rfl rfl rfl rfl rfl rfl rfl (fun w' hw' => Calls.via hw' (compare_c _ (Nat.le_refl _) (aM.below (Below.via hb06 hw')) (bM.below (Below.via hb06 hw')))) ?_
        by_cases hz : cmpO (nthE a i) (nthE b i) = 0
        · rw [hz] at heq ⊢
          (repeat (first | refine x_p (kk := ?_) | refine x_R1 (kk := fun _ _ => ?_) | refine x_f2 (kk := ?_) | refine x_D (kk := ?_)))
          rw [a2]
          refine OrdA.tail (fun w7 hb67 => ?_)
          have hb07 := Below.via hb06 hb67
          refine VW.Ord.effT rfl (Ops.callP rfl rfl rfl rfl rfl (demand_c _ _ _) (fun r w8 hR => ?_) (fun ch w8 hR => ?_))
          rotate_left
          · obtain ⟨hb, rfl, rfl⟩ := hR
            have h2 := of_decide_eq_false hb
            rw [if_neg (fun h => h2 (by have := h.2; omega))] at heq
            exact ⟨rfl, heq, hb07⟩
          obtain ⟨hb, hw⟩ := hR
          subst w8
          have h2 : nthC a i ≤ nthC b i := by have := of_decide_eq_true hb; omega
          rw [if_pos ⟨rfl, h2⟩] at heq
          clear hb
          refine Ops.nil (W.endl ?_)
          refine VW.Ord.nil ?_
          have hb77 : Below w7.heap.size w7 w7 := Below.refl _ _
          have B7 := B6.kp (kpF hb67) (fun e => e)
          have hRa7 := hRa.below hb07
          have hRb7 := hRb.below hb07
          clear hRa6 hRb6 hb66 B6
          (repeat (first | with_reducible refine W.seq ?_))
          refine W.ordA 99 [(0, 1), (1, 1), (2, 1), (3, 1), (4, 2), (5, 1), (6, 2), (7, 1)] rfl (by kernel_rfl) rfl (by kernel_rfl) (fun _ _ _ h => h) ?_
          (repeat (first | refine x_p (kk := ?_) | refine x_R1 (kk := fun _ _ => ?_) | refine x_f2 (kk := ?_) | refine x_D (kk := ?_)))
          rw [a2]
          refine OrdA.nil (fun w8 hb78 => ?_)
          have hb08 := Below.via hb07 hb78
          have hb88 : Below w8.heap.size w8 w8 := Below.refl _ _
          have B8 := B7.kp (kpF hb78) (fun e => e)
          have hRa8 := hRa.below hb08
          have hRb8 := hRb.below hb08
          clear hRa7 hRb7 hb77 B7
          by_cases hlt2 : nthC a i < nthC b i
          · rw [if_pos hlt2] at heq
            refine W.condT rfl (by first | (simp; done) | (simp; omega)) ?_
            (repeat (first | with_reducible refine W.seq ?_))
            refine W.ordA 11 [(0, 1), (1, 2), (2, 1), (3, 2), (4, 1), (5, 1), (6, 1), (7, 1), (8, 2), (9, 1), (10, 1), (12, 1), (13, 1), (14, 1), (15, 1), (11, 0), (16, 0), (17, 1)] rfl (by kernel_rfl) rfl (by kernel_rfl) (fun _ _ _ h => h) ?_
            (repeat (first | refine x_p (kk := ?_) | refine x_a (kk := ?_) | refine x_R1 (kk := fun _ _ => ?_) | refine x_f2 (kk := ?_) | refine x_D (kk := ?_)))
            rw [a2]
            skip
            rw [show ((nthC b i : Nat) : Int) - ((nthC a i : Nat) : Int) = ((nthC b i - nthC a i : Nat) : Int) by omega]
            refine x_ev rfl (fun _ => EV.bld2 rfl rfl rfl rfl rfl hb1 rfl) (kk := ?_)
            (repeat (first | refine x_p (kk := ?_) | refine x_a (kk := ?_)))
            rw [show (i : Int) + 1 = ((i + 1 : Nat) : Int) by omega]
            refine x_ev rfl (fun _ => EV.slP (q := i + 1) rfl rfl rfl rfl rfl (by omega)) (kk := ?_)
            refine OrdA.tail (fun w9 hb9 => ?_)
            have hb09 := Below.via hb08 hb9
            refine VW.Ord.effT rfl (Ops.bsG (cs := #[vb, .int .i64 ((nthC b i - nthC a i : Nat) : Int)]) (vs := [(0, .agg #[vb, .int .i64 ((nthC b i - nthC a i : Nat) : Int)])]) rfl rfl rfl rfl rfl rfl rfl rfl rfl (by simp [Instr.fill, Value.cells, show Array.range 2 = #[0, 1] from rfl]) (fun w10 r10 hM10 => Ops.nil (W.endl ?_)))
            have hb010 := Below.via hb09 (Mk.bel hM10)
            have e10 := hM10.r_eq
            have s9 := hb09.size
            have hO10 : OP 119 pA pB w9 w10 (.slice (some ⟨r10, 0, none⟩) 1 1) [(vb, nthC b i - nthC a i)] := ⟨Mk.bel hM10, own_lit2 hM10, fun k hk => by have := own_r hk; omega⟩
            have hRd := (hRb.slD (q := i + 1) (by omega)).below hb010
            have hAd := hAb.drop (i + 1)
            have hdl := hAd.len
            have hdl2 : (lb.drop (i + 1)).length = lb.length - (i + 1) := List.length_drop
            refine VW.Ord.effT rfl (Ops.appP rfl rfl rfl rfl rfl rfl rfl rfl rfl hO10 hRd (OA_one hAd) (by rw [List.length_singleton]; omega) (fun v11 w11 hO11 k11 hn11 => Ops.nil (W.endl ?_)))
            have hb911 : Below w9.heap.size w9 w11 := hO11.bel
            have hb011 := Below.via hb09 hb911
            have hP11 : PO w.heap.size w11 v11 ((vb, nthC b i - nthC a i) :: lb.drop (i + 1)) := ⟨hb011.size, tr_bel hb011.size, hO11.own, fun k hk => by
              have := hO11.ge k hk
              rw [tr_size hb011.size]
              omega⟩
            have hOA : OA S' w11 (.cons (nthE b i) (nthC b i - nthC a i) (dropO b (i + 1))) ((vb, nthC b i - nthC a i) :: lb.drop (i + 1)) := by
              obtain ⟨le, h1, h2⟩ := bM.below hb011
              exact ⟨vb, _, le, rfl, h1, h2, hAd.kp (kpF hb011) (fun _ e => e.elim)⟩
            (repeat (first | refine y_p (kk := ?_)))
            refine VW.Ord.nil ?_
            skip
            exact W.fretP rfl ⟨_, heq, po_OM hP11 hS hOA (by simp only [lenO]; omega), hb011⟩
          · rw [if_neg hlt2] at heq
            refine W.condF rfl (by first | (simp; done) | (simp; omega)) ?_
            (repeat (first | with_reducible refine Ops.nil ?_ | with_reducible refine W.region ?_ | refine z_p (kk := ?_) | refine z_a (kk := ?_) | with_reducible refine W.skip ?_ | with_reducible refine W.endb ?_))
            exact W.endl ⟨_, _, ⟨⟨i + 1, rfl, by omega, by omega, rfl, hb08, heq⟩, by omega⟩, (by repeat (first | exact trivial | refine And.intro rfl ?_))⟩
        · rw [if_neg (fun h => hz h.1)] at heq
          have hz' : (cmpO (nthE a i) (nthE b i) == 0) = false := by simp [hz]
          (repeat (first | refine x_p (kk := ?_)))
          (first | refine x_t (kk := ?_) | refine x_f (kk := ?_))
          (repeat (first | refine x_p (kk := ?_) | refine x_n (kk := ?_)))
          refine OrdA.tail (fun w7 hb67 => ?_)
          have hb07 := Below.via hb06 hb67
          refine VW.Ord.effT rfl (Ops.callP rfl rfl rfl rfl rfl (demand_c _ _ _) (fun r w8 hR => ?_) (fun ch w8 hR => ?_))
          · exact absurd hR.1 (by simp)
          obtain ⟨hb, rfl, rfl⟩ := hR
          exact ⟨rfl, heq, hb07⟩
  · have hil' : i = lb.length := by omega
    subst hil'
    rw [hlb, dropO_len, ← hlb] at heq
    (repeat (first | with_reducible refine W.seq ?_ | with_reducible refine Ops.nil ?_ | with_reducible refine W.region ?_ | refine z_p (kk := ?_)))
    refine W.condF rfl (by first | rfl | assumption | (simp only [bnf] <;> omega) | (simp only [*, bnf]; done) | fail) ?_
    (repeat (first | with_reducible refine W.seq ?_ | with_reducible refine W.region ?_ | refine z_p (kk := ?_) | refine W.exit rfl ?_ | refine z_l (kk := ?_)))
    by_cases hab : la.length = lb.length
    · have hd : dropO a lb.length = .nil := by rw [← hab, hla]; exact dropO_len a
      rw [hd] at heq
      refine Ops.callP rfl rfl rfl rfl rfl (demand_c _ _ _) (fun r w5 hR => ?_) (fun ch w5 hR => ?_)
      rotate_left
      · obtain ⟨hb, rfl, rfl⟩ := hR
        exact absurd hb (by simp [hab])
      obtain ⟨hb, hw⟩ := hR
      subst w5
      (repeat (first | with_reducible refine W.seq ?_ | with_reducible refine Ops.nil ?_ | with_reducible refine W.region ?_ | refine z_p (kk := ?_)))
      exact W.fretP rfl ⟨.nil, heq, OM.nil, hb03⟩
    · have hd := dropO_cons (o := a) (i := lb.length) (by omega)
      rw [hd] at heq
      refine Ops.callP rfl rfl rfl rfl rfl (demand_c _ _ _) (fun r w5 hR => ?_) (fun ch w5 hR => ?_)
      · obtain ⟨hb, hw⟩ := hR
        exact absurd hb (by simp; omega)
      obtain ⟨hb, rfl, rfl⟩ := hR
      exact ⟨rfl, heq, hb03⟩
def restF (a b : Od) : Except Int Od := match restO a b with
  | some o => .ok o
  | none => .error 6
theorem rest_small : ∀ {a b o : Od}, restO a b = some o → szO o ≤ szO b ∧ mostO o ≤ mostO b
  | .nil, b, o, h => by
    simp only [restO, Option.some.injEq] at h
    subst h
    exact ⟨Nat.le_refl _, Nat.le_refl _⟩
  | .cons _ _ _, .nil, o, h => by simp [restO] at h
  | .cons ae ac ar, .cons be bc br, o, h => by
    simp only [restO] at h
    split at h
    · simp only [Option.some.injEq] at h
      subst h
      exact ⟨Nat.le_refl _, Nat.le_refl _⟩
    · split at h
      · split at h
        · simp only [Option.some.injEq] at h
          subst h
          simp only [szO, mostO]
          omega
        · have := rest_small h
          simp only [szO, mostO]
          omega
      · cases h
theorem rest_fun : FunO 97 restF := ⟨rfl, fun {S' w va vb a b} hS hA hB na nb sa sb za zb => by
  have h1 := small_most sa
  have h2 := small_most sb
  have h3 := most_top a
  have h4 := most_top b
  refine (rest_c hS hA hB (by omega) (by omega) (by omega) (by omega)).mono fun e w' h => ?_
  rcases h with ⟨v, he, o, h5, h6, h7⟩ | ⟨ch, he, h5, h6, h7⟩
  · have := rest_small h5
    exact .inl ⟨v, he, o, by unfold restF; rw [h5], h6, h7, by omega, by omega⟩
  · exact .inr ⟨ch, he, 6, h5, by unfold restF; rw [h6], h7⟩⟩
theorem Rest_c {w : World} {s t : List UInt8} (hs : s.length ≤ 4294967295) (ht : t.length ≤ 4294967295) (hT : Tbl w) :
    Calls Tryz.prog 51 #[S s, S t] w (Ret fun r w' => r = .tuple #[S (outS (bothR restF s t)), .int .i64 (outE (bothR restF s t))] ∧ Below w.heap.size w w') := by
  refine calls_W (vs := [_, _]) Tryz.func51 rfl (by kernel_rfl) rfl ?_
  (repeat (first | with_reducible refine W.seq ?_ | with_reducible refine Ops.nil ?_ | with_reducible refine W.region ?_ | refine z_p (kk := ?_)))
  refine Ops.call rfl rfl rfl rfl rfl (both_c rest_fun hs ht hT) (fun r w1 hR => ?_)
  obtain ⟨rfl, hb1⟩ := hR
  (repeat (first | with_reducible refine Ops.nil ?_ | refine z_p (kk := ?_)))
  exact W.fret rfl ⟨rfl, hb1⟩
end Go.Proofs.YtcmjlmnfdncajaaGreatDoor
/- append of zeros, elements of two cells. -/
namespace Go.Proofs.YtcmjlmnfdncajaaGreatDoor.VW
open Go Go.RowKit
section
variable {P : Program} [hT : Tab P] {n : Nat} {ds : List Deferred} {Φ : Post} {k : List It} {ρ : E} {w : World} {all : Array Oper} {l : List Oper} {md : Option (List Oper)}
theorem Ops.appZ2 {o : Oper} {d t u e by' : Nat} {x y : Operand} {z : Value} {i : Int} {kk : IntKind} (ho : o.op = .call { callee := .builtin .append, args := #[x, y], argTypes := #[t, u] }) (hd : o.dst = some d) (hg : o.guard = none)
    (ht : tyD P t = some (.slice e)) (hu : tyD P u = some (.int kk)) (hs : tyS P e = some 2) (hb : tyB P e = some (by' + 1)) (hz : tyZ P e = some z) (hzs : z.cells.size = 2) (hx : ev ρ x = some (.slice none 0 0)) (hy : ev ρ y = some (.int .i64 i)) (h0 : 0 < i) (h1 : i.toNat * (by' + 1) ≤ 140737488355328)
    (hk : ∀ r c w', w.heap.size ≤ r → i.toNat ≤ c → w'.ownsRow 0 e 2 (.slice (some ⟨r, 0, none⟩) 0 c) 0 [] → Kp (fun _ => False) w w' → Ops none P n ds all k Φ l ((d, .slice (some ⟨r, 0, none⟩) i.toNat c) :: ρ) w') : Ops none P n ds all k Φ (o :: l) ρ w := by
  obtain ⟨f, hi, h2, h3, h4⟩ := tyE_ok hs hb hz
  obtain ⟨m, rfl⟩ := Int.eq_ofNat_of_zero_le (Int.le_of_lt h0)
  simp only [Int.toNat_natCast] at h1 hk
  have hm : 0 < m := by omega
  have h5 : m ≤ m * (by' + 1) := Nat.le_mul_of_pos_right m (by omega)
  have h63 : (m : Int) ≤ 9223372036854775807 := by omega
  have hw : IntKind.i64.wrap (m : Int) = m := wrap_in ⟨by omega, h63⟩
  have hge : m ≤ grownCap w m 0 e := grownCap_ge w m 0 e
  have hle : grownCap w m 0 e ≤ maxLen := grownCap_le_maxLen w m 0 e (by simp only [maxLen]; omega)
  have hnb : ¬ (281474976710656 < (m : Int) * f.bytes) := by
    rw [h3]
    have : ((m * (by' + 1) : Nat) : Int) ≤ 281474976710656 := by omega
    push_cast at this
    push_cast
    omega
  have hnc : ¬ (281474976710656 < Builtin.nextslicecap m 0 * f.bytes) := by rw [nextslicecap_zero hm, h3]; omega
  have hn0 : ¬ (m = 0) := by omega
  have hnz : ¬ ((m : Int) < 0) := by omega
  have hn63 : ¬ (9223372036854775807 < (m : Int)) := by omega
  have hfn : (Builtin.firstCells f.size 0 (.slice none 0 0)).run P w.drew = .ok #[] w.drew := by simp [Builtin.firstCells]
  refine Ops.val hd hg (w' := w.drew.alloc (.cells (Builtin.zeroCells z.cells m ++ Builtin.zeroCells z.cells (grownCap w m 0 e - m)) e)) (v := .slice (some ⟨w.heap.size, 0, none⟩) m (grownCap w m 0 e)) (fun a hr => ?_) (hk _ _ _ (Nat.le_refl _) hge ?_ ?_)
  · simp [execOp, ho, resolve, invoke, builtin, hr.ev hx, hr.ev hy, Builtin.append_, run_und (td_slice (tyD_ok ht)), run_und (td_int (tyD_ok hu)), sizeOf, typeInfo, zeroValue, hi, h4, asInt, asIntOf, hw, hnb, hnc, hn0, hnz, hn63, Question.forced, newRow, grownCap, h2]
    rw [h2] at hfn
    rw [hfn]
    simp
    intro h
    omega
  · refine ⟨rfl, .inr ⟨w.heap.size, _, _, rfl, Nat.zero_le _, heap_alloc_new w.drew _, Nat.zero_le _, hle, ?_, rfl⟩⟩
    simp only [Array.size_append, size_zeroCells, hzs]
    omega
  · exact ⟨rfl, rfl, rfl, by simp, fun i hi _ => Below.heap_alloc w.drew _ i hi⟩
end
end Go.Proofs.YtcmjlmnfdncajaaGreatDoor.VW
namespace Go.Proofs.YtcmjlmnfdncajaaGreatDoor
open Go Go.RowKit Go.Proofs.YtcmjlmnfdncajaaGreatDoor.VW Go.Proofs.YtcmjlmnfdncajaaGreatDoor.TW
attribute [local irreducible] W Ops OrdA VW.Ord OrdX Wi OpsI OrdF
theorem growP_c {w : World} (i : Int) (h0 : 0 ≤ i) (h1 : i ≤ 1000000) : Calls Tryz.prog 131 #[.slice none 0 0, .int .i64 i] w (Ret fun r w' => PO w.heap.size w' r [] ∧ Below w.heap.size w w') := by
  refine calls_W (vs := [_, _]) Tryz.func131 rfl (by kernel_rfl) rfl ?_
  (repeat (first | with_reducible refine W.seq ?_ | with_reducible refine Ops.nil ?_ | with_reducible refine W.region ?_ | refine z_p (kk := ?_)))
  refine W.condF rfl (by first | rfl | assumption | (simp only [bnf] <;> omega) | (simp only [*, bnf]; done) | fail) ?_
  (repeat (first | with_reducible refine W.seq ?_ | with_reducible refine W.region ?_ | refine z_p (kk := ?_) | with_reducible refine W.skip ?_))
  refine Ops.cap rfl rfl rfl rfl rfl ?_
  (repeat (first | with_reducible refine W.seq ?_ | with_reducible refine Ops.nil ?_ | with_reducible refine W.region ?_ | refine z_p (kk := ?_) | refine z_a (kk := ?_) | refine z_l (kk := ?_)))
  by_cases hp : 0 < i
  · refine W.condT rfl (by first | (simp; done) | (simp; omega)) ?_
    (repeat (first | with_reducible refine W.region ?_ | refine z_p (kk := ?_)))
    refine Ops.cap rfl rfl rfl rfl rfl ?_
    refine Ops.slH rfl rfl rfl rfl rfl rfl rfl (by simp) (by simp) ?_
    (repeat (first | refine z_p (kk := ?_)))
    refine Ops.appZ2 rfl rfl rfl rfl rfl rfl rfl rfl rfl rfl rfl (by omega) (by omega) (fun r c w1 hr hcap hown k1 => ?_)
    have hb1 : Below w.heap.size w w1 := k1.below (Nat.le_refl _) (fun _ _ e => e)
    (repeat (first | refine z_p (kk := ?_) | refine z_l (kk := ?_)))
    refine Ops.slH rfl rfl rfl rfl rfl rfl rfl (by simp) (by simp) ?_
    (repeat (first | with_reducible refine W.seq ?_ | with_reducible refine Ops.nil ?_ | with_reducible refine W.region ?_ | refine z_p (kk := ?_)))
    refine W.fret rfl ⟨⟨hb1.size, tr_bel hb1.size, hown, fun k hk => ?_⟩, hb1⟩
    simp [resV, Value.ownBlock] at hk
    rw [tr_size hb1.size]
    omega
  · refine W.condF rfl (by first | (simp; done) | (simp; omega)) ?_
    (repeat (first | with_reducible refine W.seq ?_ | with_reducible refine Ops.nil ?_ | with_reducible refine W.region ?_ | refine z_p (kk := ?_) | with_reducible refine W.skip ?_))
    exact W.fret rfl ⟨PO.nil (Nat.le_refl _), Below.refl _ _⟩
set_option maxHeartbeats 4000000 in
theorem concatP_c {S' : Nat → Prop} {w : World} {r c : Nat} {svs : List Value} {xss : List (List (Value × Nat))} (hB : Blk w r svs.toArray 84) (hl : svs.length = xss.length) (hs : ∀ j, j < xss.length → R2 S' w (svs.getD j undef) (xss.getD j [])) (h1c : ∀ l, l ∈ xss → ∀ p, p ∈ l → p.1.oneCell' = true) (hsum : xss.flatten.length ≤ 1000000) (hn : xss.length ≤ 1000) :
    Calls Tryz.prog 117 #[.slice (some ⟨r, 0, none⟩) xss.length c] w (Ret fun v w' => PO w.heap.size w' v xss.flatten ∧ Below w.heap.size w w') := by
  have hcell : ∀ (w' : World) j, Below w.heap.size w w' → j < xss.length → w'.cell? ((⟨r, 0, none⟩ : Addr).add (j * 1)) = some (svs.getD j undef) := by
    intro w' j hb hj
    rw [Nat.mul_one, add_lit, Nat.zero_add]
    refine (hB.kp (Kp.of_below (S := fun _ => False) hb) (fun e => e)).cell ?_
    simp [List.getD_eq_getElem?_getD, hl, hj]
  have hpre : ∀ j, j ≤ xss.length → (xss.take j).flatten.length ≤ 1000000 := by
    intro j hj
    have : xss.flatten.length = (xss.take j).flatten.length + (xss.drop j).flatten.length := by
      rw [← List.length_append, ← List.flatten_append, List.take_append_drop]
    omega
  have hstep : ∀ j, j < xss.length → (xss.take (j + 1)).flatten = (xss.take j).flatten ++ xss.getD j [] := by
    intro j hj
    rw [List.take_succ_eq_append_getElem hj, List.flatten_append]
    simp [List.getD_eq_getElem?_getD, hj]
  have hmem : ∀ j, j < xss.length → xss.getD j [] ∈ xss := fun j hj => by
    rw [List.getD_eq_getElem?_getD, List.getElem?_eq_getElem hj]
    exact List.getElem_mem hj
  refine calls_W (vs := [_]) Tryz.func117 rfl (by kernel_rfl) rfl ?_
  (repeat (first | with_reducible refine W.seq ?_ | with_reducible refine Ops.nil ?_ | with_reducible refine W.region ?_ | refine z_p (kk := ?_) | with_reducible refine W.block ?_ | refine z_l (kk := ?_)))
  refine W.loop (fun m ρ w1 => ∃ j : Nat, m = xss.length - j ∧ j ≤ xss.length ∧ ρ = [(0, .slice (some ⟨r, 0, none⟩) xss.length c), (3, .int .i64 ((xss.take j).flatten.length : Nat)), (9, .slice (some ⟨r, 0, none⟩) xss.length c), (10, .int .i64 xss.length), (11, .int .i64 j)] ∧ w1 = w)
    ⟨_, _, ⟨0, rfl, Nat.zero_le _, rfl, rfl⟩, (by repeat (first | exact trivial | refine And.intro rfl ?_))⟩ ?_
  rintro m ρ w1 ⟨j, rfl, hj, rfl, rfl⟩
  (repeat (first | with_reducible refine W.seq ?_ | with_reducible refine Ops.nil ?_ | with_reducible refine W.region ?_ | refine z_p (kk := ?_)))
  (first | refine W.condD rfl (fun hc => ?_) (fun hc => ?_) | refine W.condE rfl (fun hc => ?_) (fun hc => ?_) | refine W.condN rfl (fun hc => ?_) (fun hc => ?_) | refine W.cond rfl (fun hc => ?_) (fun hc => ?_))
  · have hlt : j < xss.length := by omega
    have hsj := hs j hlt
    obtain ⟨Aj, cj, ej⟩ := hsj.sh
    have hp1 := hpre (j + 1) (by omega)
    rw [hstep j hlt, List.length_append] at hp1
    (repeat (first | with_reducible refine W.seq ?_ | with_reducible refine W.region ?_ | with_reducible refine W.skip ?_ | with_reducible refine W.block ?_))
    refine Ops.idx rfl rfl rfl rfl rfl rfl rfl (by omega) (by omega) (Ops.ld rfl rfl rfl rfl rfl (hcell w1 j (Below.refl _ _) hlt) ?_)
    rw [ej]
    (repeat (first | with_reducible refine W.seq ?_ | with_reducible refine Ops.nil ?_ | with_reducible refine W.region ?_ | refine z_p (kk := ?_) | refine z_a (kk := ?_) | refine z_l (kk := ?_)))
    refine W.condF rfl (by first | (simp; done) | (simp; omega)) ?_
    (repeat (first | with_reducible refine Ops.nil ?_ | with_reducible refine W.region ?_ | refine z_p (kk := ?_) | refine z_a (kk := ?_) | with_reducible refine W.skip ?_ | with_reducible refine W.endb ?_))
    refine W.endl ⟨_, _, ⟨⟨j + 1, rfl, by omega, rfl, rfl⟩, by omega⟩, ⟨rfl, ?_, rfl, rfl, rfl, trivial⟩⟩
    rw [hstep j hlt, List.length_append]
    rfl
  · have hlt : j = xss.length := by omega
    subst hlt
    rw [List.take_length]
    (repeat (first | with_reducible refine W.seq ?_ | with_reducible refine W.region ?_ | refine z_p (kk := ?_) | refine W.exit rfl ?_))
    refine Ops.call rfl rfl rfl rfl rfl (growP_c _ (by omega) (by omega)) (fun v w2 hI => ?_)
    obtain ⟨hI, hb2⟩ := hI
    (repeat (first | with_reducible refine W.seq ?_ | with_reducible refine Ops.nil ?_ | with_reducible refine W.region ?_ | refine z_p (kk := ?_) | with_reducible refine W.block ?_ | refine z_l (kk := ?_)))
    refine W.loop (fun m ρ w2 => ∃ (j : Nat) (v : Value), m = xss.length - j ∧ j ≤ xss.length ∧ ρ = [(6, v), (25, .slice (some ⟨r, 0, none⟩) xss.length c), (26, .int .i64 xss.length), (27, .int .i64 j)] ∧ PO w1.heap.size w2 v (xss.take j).flatten ∧ Below w1.heap.size w1 w2)
      ⟨_, _, ⟨0, v, rfl, Nat.zero_le _, rfl, hI, hb2⟩, (by repeat (first | exact trivial | refine And.intro rfl ?_))⟩ ?_
    rintro m ρ w2 ⟨j, v, rfl, hj, rfl, hI, hb2⟩
    (repeat (first | with_reducible refine W.seq ?_ | with_reducible refine Ops.nil ?_ | with_reducible refine W.region ?_ | refine z_p (kk := ?_)))
    (first | refine W.condD rfl (fun hc => ?_) (fun hc => ?_) | refine W.condE rfl (fun hc => ?_) (fun hc => ?_) | refine W.condN rfl (fun hc => ?_) (fun hc => ?_) | refine W.cond rfl (fun hc => ?_) (fun hc => ?_))
    · have hlt : j < xss.length := by omega
      have hp1 := hpre (j + 1) (by omega)
      rw [hstep j hlt, List.length_append] at hp1
      (repeat (first | with_reducible refine W.seq ?_ | with_reducible refine W.region ?_ | with_reducible refine W.skip ?_ | with_reducible refine W.block ?_))
      refine Ops.idx rfl rfl rfl rfl rfl rfl rfl (by omega) (by omega) (Ops.ld rfl rfl rfl rfl rfl (hcell w2 j hb2 hlt) ?_)
      (repeat (first | with_reducible refine Ops.nil ?_ | with_reducible refine W.region ?_ | refine z_p (kk := ?_)))
      refine Ops.appP rfl rfl rfl rfl rfl rfl rfl rfl rfl hI.2 ((hs j hlt).below hb2) (h1c _ (hmem j hlt)) (by omega) (fun v' w3 hO k3 hn3 => ?_)
      have hI3 := po_put hI (tr_size hI.1) hO k3.size
      rw [← hstep j hlt] at hI3
      (repeat (first | with_reducible refine Ops.nil ?_ | with_reducible refine W.region ?_ | refine z_p (kk := ?_) | refine z_a (kk := ?_) | with_reducible refine W.endb ?_))
      exact W.endl ⟨_, _, ⟨⟨j + 1, v', rfl, by omega, rfl, hI3, Below.put hb2 k3 (fun i hi => po_ge hI i hi)⟩, by omega⟩, (by repeat (first | exact trivial | refine And.intro rfl ?_))⟩
    · have hlt : j = xss.length := by omega
      subst hlt
      rw [List.take_length] at hI
      (repeat (first | with_reducible refine W.seq ?_ | with_reducible refine Ops.nil ?_ | with_reducible refine W.region ?_ | refine z_p (kk := ?_) | refine W.exit rfl ?_))
      exact W.fret rfl ⟨hI, hb2⟩
end Go.Proofs.YtcmjlmnfdncajaaGreatDoor
namespace Go.Proofs.YtcmjlmnfdncajaaGreatDoor
open Go Go.RowKit Go.Proofs.YtcmjlmnfdncajaaGreatDoor.VW Go.Proofs.YtcmjlmnfdncajaaGreatDoor.TW
attribute [local irreducible] W Ops OrdA VW.Ord OrdX Wi OpsI OrdF
/-- A list of parts in memory: the first one and the others. -/
theorem OA_cons {S : Nat → Prop} {w : World} {o : Od} {l : List (Value × Nat)} (h : OA S w o l) (hp : 0 < l.length) : ∃ e c r v l', o = .cons e c r ∧ l = (v, c) :: l' ∧ OM S w v e ∧ OA S w r l' := by
  cases o with
  | nil =>
    have : l = [] := h
    subst this
    simp at hp
  | cons e c r =>
    obtain ⟨v, l', le, h1, h2, h3, h4⟩ := h
    exact ⟨e, c, r, v, l', rfl, h1, ⟨le, h2, h3⟩, h4⟩
theorem OA_nil {S : Nat → Prop} {w : World} {o : Od} {l : List (Value × Nat)} (h : OA S w o l) (hp : l.length = 0) : o = .nil := by
  have := h.len
  exact lenO_zero.1 (by omega)
set_option maxHeartbeats 8000000 in
theorem blend_c {S' : Nat → Prop} {w : World} {va vb : Value} {a b : Od} (hS : ∀ i, S' i → i < w.heap.size) (hA : OM S' w va a) (hB : OM S' w vb b) (hza : szO a ≤ 100000) (hzb : szO b ≤ 100000) (hta : topO a ≤ 10000000) (htb : topO b ≤ 10000000) :
    Calls Tryz.prog 96 #[va, vb] w (RetP (fun r w' => bigT (blO a b) = false ∧ OM S' w' r (blO a b) ∧ Below w.heap.size w w') (fun ch w' => ch = trb 5 ∧ bigT (blO a b) = true ∧ Below w.heap.size w w')) := by
  have hsz := bl_sizes a b
  have hlz := len_le_sz (blO a b)
  obtain ⟨la, hRa, hAa⟩ := hA
  obtain ⟨lb, hRb, hAb⟩ := hB
  have hla := hAa.len
  have hlb := hAb.len
  have hza' := len_le_sz a
  have hzb' := len_le_sz b
  obtain ⟨Aa, ca, rfl⟩ := hRa.sh
  obtain ⟨Ab, cb, rfl⟩ := hRb.sh
  refine calls_WP (vs := [_, _]) Tryz.func96 rfl (by kernel_rfl) rfl ?_
  (repeat (first | with_reducible refine W.seq ?_ | with_reducible refine Ops.nil ?_ | with_reducible refine W.region ?_ | refine z_p (kk := ?_) | with_reducible refine W.block ?_))
  refine W.loop (fun m ρ w3 => ∃ (a' b' acc : Od) (la' lb' l : List (Value × Nat)) (Aa Ab : Option Addr) (ca cb : Nat) (ov : Value), m = la'.length + lb'.length ∧ ρ = [(0, .slice Aa la'.length ca), (1, .slice Ab lb'.length cb), (5, ov)] ∧
      Below w.heap.size w w3 ∧ PO w.heap.size w3 ov l ∧ OA S' w acc l ∧ R2 S' w (.slice Aa la'.length ca) la' ∧ R2 S' w (.slice Ab lb'.length cb) lb' ∧ OA S' w a' la' ∧ OA S' w b' lb' ∧ blO a b = appO acc (blO a' b') ∧ lenO acc + lenO a' + lenO b' ≤ 200000 ∧ topO a' ≤ 10000000 ∧ topO b' ≤ 10000000)
    ⟨_, _, ⟨a, b, .nil, la, lb, [], _, _, _, _, _, rfl, rfl, Below.refl _ _, PO.nil (by omega), rfl, hRa, hRb, hAa, hAb, rfl, by simp only [lenO]; omega, hta, htb⟩, (by repeat (first | exact trivial | refine And.intro rfl ?_))⟩ ?_
  clear hRa hRb hAa hAb
  rintro m ρ w3 ⟨a', b', acc, la', lb', l, Aa, Ab, ca, cb, ov, rfl, rfl, hb03, hP, hAc, hRa, hRb, hAa, hAb, heq, hlen, ha', hb'⟩
  have hPs := hP.1
  have hlac := hAc.len
  have hlaa := hAa.len
  have hlbb := hAb.len
  have hb33 : Below w3.heap.size w3 w3 := Below.refl _ _
  by_cases hgo : 0 < la'.length ∧ 0 < lb'.length
  · obtain ⟨hg1, hg2⟩ := hgo
    obtain ⟨ae, ac, ar, ve, la2, rfl, rfl, hEa, hAr⟩ := OA_cons hAa hg1
    obtain ⟨be, bc, br, vf, lb2, rfl, rfl, hEb, hBr⟩ := OA_cons hAb hg2
    have ha1 := hEa.one
    have hb1 := hEb.one
    have hRa3 := hRa.below hb03
    have hRb3 := hRb.below hb03
    simp only [topO] at ha' hb'
    have hl1 : ((ve, ac) :: la2).length = la2.length + 1 := rfl
    have hl2 : ((vf, bc) :: lb2).length = lb2.length + 1 := rfl
    simp only [lenO] at hlen
    have hda := hRa.slD (q := 1) (by simp)
    have hdb := hRb.slD (q := 1) (by simp)
    simp only [List.drop_succ_cons, List.drop_zero] at hda hdb
    obtain ⟨A2, c2, hv2⟩ := hda.sh
    obtain ⟨B2, d2, hw2⟩ := hdb.sh
    (repeat (first | with_reducible refine W.seq ?_ | with_reducible refine Ops.nil ?_ | with_reducible refine W.region ?_ | refine z_p (kk := ?_) | refine z_y (kk := ?_) | refine z_l (kk := ?_) | refine z_h (kk := ?_)))
    refine W.condT rfl (by first | rfl | (simp; done) | (simp; omega)) ?_
    (repeat (first | with_reducible refine W.seq ?_ | with_reducible refine W.skip ?_ | with_reducible refine W.block ?_))
    refine W.ordA 99 [(0, 1), (1, 1), (2, 1), (3, 2), (4, 1), (5, 1), (6, 1), (7, 2), (8, 2)] rfl (by kernel_rfl) rfl (by kernel_rfl) (fun _ _ _ h => h) ?_
    (repeat (first | refine x_p (kk := ?_) | refine x_R0 (kk := fun _ _ => ?_)))
    refine OrdA.call rfl rfl rfl rfl rfl rfl rfl (fun w' hw' => Calls.via hw' (compare_c _ (Nat.le_refl _) (hEa.below (Below.via hb03 hw')) (hEb.below (Below.via hb03 hw')))) ?_
    refine OrdA.nil (fun w5 hb35 => ?_)
    have hb05 := Below.via hb03 hb35
    have hb55 : Below w5.heap.size w5 w5 := Below.refl _ _
    have hP5 := po_kp hP (kpF hb35) (fun _ _ e => e)
    have hRa5 := hRa.below hb05
    have hRb5 := hRb.below hb05
    clear hRa3 hRb3 hb33
    (repeat (first | with_reducible refine W.seq ?_ | with_reducible refine Ops.nil ?_ | with_reducible refine W.region ?_ | refine z_p (kk := ?_) | with_reducible refine W.block ?_))
    rcases cmp_rng ae be with hx | hx | hx
    · rw [blO_cons, if_neg (by omega), if_pos hx, appO_cons_snoc] at heq
      rw [hx]
      refine W.condF rfl (by first | rfl | assumption | (simp only [bnf] <;> omega) | (simp only [*, bnf]; done) | fail) ?_
      (repeat (first | with_reducible refine W.seq ?_ | with_reducible refine Ops.nil ?_ | with_reducible refine W.region ?_ | refine z_p (kk := ?_)))
      refine W.condT rfl (by first | rfl | assumption | (simp only [bnf] <;> omega) | (simp only [*, bnf]; done) | fail) ?_
      (repeat (first | with_reducible refine W.seq ?_ | with_reducible refine W.region ?_ | refine z_p (kk := ?_) | refine z_R2 (kk := fun _ => ?_)))
      refine Ops.pushP (fa := pA) (fb := pB) (z := (vf, bc)) rfl rfl rfl rfl rfl rfl rfl rfl rfl rfl rfl (fun _ => rfl) hb1 rfl hP5.2 (by omega) (fun lv' p w7 hO7 k7 hn7 => ?_)
      have hP7 := po_put hP5 (tr_size hP5.1) hO7 k7.size
      have hAs := OA_snoc (c := bc) hEb hAc
      have hls : lenO (snocO acc be bc) = lenO acc + 1 := by unfold snocO; rw [lenO_app]; rfl
      (repeat (first | with_reducible refine Ops.nil ?_ | with_reducible refine W.region ?_ | refine z_p (kk := ?_)))
      refine z_ev (EV.slP (q := 1) rfl rfl rfl rfl rfl (by omega)) (kk := ?_)
      rw [show ((vf, bc) :: lb2).length = lb2.length + 1 from rfl] at hw2 hdb ⊢
      rw [hw2] at hdb ⊢
      (repeat (first | with_reducible refine Ops.nil ?_ | refine z_p (kk := ?_) | with_reducible refine W.endb ?_))
      exact W.endl ⟨_, _, ⟨⟨.cons ae ac ar, br, snocO acc be bc, (ve, ac) :: la2, lb2, l ++ [(vf, bc)], Aa, B2, ca, d2, lv', rfl, rfl, Below.put hb05 k7 (fun j hj => po_ge hP5 j hj), hP7, hAs, hRa, hdb, hAa, hBr, heq, by simp only [lenO]; omega, by simp only [topO]; omega, by omega⟩, by simp⟩, (by repeat (first | exact trivial | refine And.intro rfl ?_))⟩
    · rw [blO_cons, if_neg (by omega), if_neg (by omega), appO_cons_snoc] at heq
      rw [hx]
      refine W.condF rfl (by first | rfl | assumption | (simp only [bnf] <;> omega) | (simp only [*, bnf]; done) | fail) ?_
      (repeat (first | with_reducible refine W.seq ?_ | with_reducible refine Ops.nil ?_ | with_reducible refine W.region ?_ | refine z_p (kk := ?_)))
      refine W.condF rfl (by first | rfl | assumption | (simp only [bnf] <;> omega) | (simp only [*, bnf]; done) | fail) ?_
      (repeat (first | with_reducible refine W.seq ?_))
      refine W.ordA 15 [(0, 1), (1, 1), (2, 1), (3, 1), (4, 2), (5, 1), (6, 1), (7, 1), (8, 2), (9, 1), (10, 1), (11, 1), (12, 2), (13, 1), (14, 1), (15, 0), (16, 0), (17, 1)] rfl (by kernel_rfl) rfl (by kernel_rfl) (fun _ _ _ h => h) ?_
      (repeat (first | refine x_p (kk := ?_) | refine x_R0 (kk := fun _ _ => ?_) | refine x_R1 (kk := fun _ _ => ?_)))
      rw [show (((ve, ac) :: la2).getD 0 default).2 = ac from rfl, show (((vf, bc) :: lb2).getD 0 default).2 = bc from rfl]
      (repeat (first | refine x_a (kk := ?_)))
      rw [show ((ac : Nat) : Int) + ((bc : Nat) : Int) = ((ac + bc : Nat) : Int) by omega]
      refine x_ev rfl (fun _ => EV.bld2 rfl rfl rfl rfl rfl ha1 rfl) (kk := ?_)
      refine OrdA.tail (fun w6 hb6 => ?_)
      have hb06 := Below.via hb05 hb6
      have hP6 := po_kp hP5 (kpF hb6) (fun _ _ e => e)
      refine VW.Ord.pushP (z := (ve, ac + bc)) rfl rfl rfl rfl rfl rfl rfl rfl rfl rfl rfl rfl rfl (fun _ => rfl) ha1 rfl hP6.2 (by omega) (fun lv' p w7 hO7 k7 hn7 => ?_)
      have hP7 := po_put hP6 (tr_size hP6.1) hO7 k7.size
      have hAs := OA_snoc (c := ac + bc) hEa hAc
      have hls : lenO (snocO acc ae (ac + bc)) = lenO acc + 1 := by unfold snocO; rw [lenO_app]; rfl
      (repeat (first | refine y_p (kk := ?_)))
      refine VW.Ord.nil ?_
      skip
      refine W.ordA 99 [(0, 1), (1, 1), (2, 1), (3, 1), (4, 1), (5, 1)] rfl (by kernel_rfl) rfl (by kernel_rfl) (fun _ _ _ h => h) ?_
      (repeat (first | refine x_p (kk := ?_)))
      refine x_ev rfl (fun _ => EV.slP (q := 1) rfl rfl rfl rfl rfl (by omega)) (kk := ?_)
      (repeat (first | refine x_p (kk := ?_)))
      refine x_ev rfl (fun _ => EV.slP (q := 1) rfl rfl rfl rfl rfl (by omega)) (kk := ?_)
      rw [show ((vf, bc) :: lb2).length = lb2.length + 1 from rfl] at hw2 hdb ⊢
      rw [show ((ve, ac) :: la2).length = la2.length + 1 from rfl] at hv2 hda ⊢
      rw [hw2] at hdb ⊢
      rw [hv2] at hda ⊢
      (repeat (first | refine x_p (kk := ?_)))
      refine OrdA.nil (fun w8 hb8 => ?_)
      have hb08 := Below.via (Below.put hb06 k7 (fun j hj => po_ge hP6 j hj)) hb8
      have hP8 := po_kp hP7 (kpF hb8) (fun _ _ e => e)
      (repeat (first | with_reducible refine W.endb ?_))
      exact W.endl ⟨_, _, ⟨⟨ar, br, snocO acc ae (ac + bc), la2, lb2, l ++ [(ve, ac + bc)], A2, B2, c2, d2, lv', rfl, rfl, hb08, hP8, hAs, hda, hdb, hAr, hBr, heq, by omega, by omega, by omega⟩, by first | omega | (simp; omega)⟩, (by repeat (first | exact trivial | refine And.intro rfl ?_))⟩
    · rw [blO_cons, if_pos hx, appO_cons_snoc] at heq
      rw [hx]
      refine W.condT rfl (by first | rfl | assumption | (simp only [bnf] <;> omega) | (simp only [*, bnf]; done) | fail) ?_
      (repeat (first | with_reducible refine W.seq ?_ | with_reducible refine W.region ?_ | refine z_p (kk := ?_) | refine z_R2 (kk := fun _ => ?_)))
      refine Ops.pushP (fa := pA) (fb := pB) (z := (ve, ac)) rfl rfl rfl rfl rfl rfl rfl rfl rfl rfl rfl (fun _ => rfl) ha1 rfl hP5.2 (by omega) (fun lv' p w7 hO7 k7 hn7 => ?_)
      have hP7 := po_put hP5 (tr_size hP5.1) hO7 k7.size
      have hAs := OA_snoc (c := ac) hEa hAc
      have hls : lenO (snocO acc ae ac) = lenO acc + 1 := by unfold snocO; rw [lenO_app]; rfl
      (repeat (first | with_reducible refine Ops.nil ?_ | with_reducible refine W.region ?_ | refine z_p (kk := ?_)))
      refine z_ev (EV.slP (q := 1) rfl rfl rfl rfl rfl (by omega)) (kk := ?_)
      rw [show ((ve, ac) :: la2).length = la2.length + 1 from rfl] at hv2 hda ⊢
      rw [hv2] at hda ⊢
      (repeat (first | with_reducible refine Ops.nil ?_ | refine z_p (kk := ?_) | with_reducible refine W.endb ?_))
      exact W.endl ⟨_, _, ⟨⟨ar, .cons be bc br, snocO acc ae ac, la2, (vf, bc) :: lb2, l ++ [(ve, ac)], A2, Ab, c2, cb, lv', rfl, rfl, Below.put hb05 k7 (fun j hj => po_ge hP5 j hj), hP7, hAs, hda, hRb, hAr, hAb, heq, by simp only [lenO]; omega, by omega, by simp only [topO]; omega⟩, by simp⟩, (by repeat (first | exact trivial | refine And.intro rfl ?_))⟩
  · have hor : la'.length = 0 ∨ lb'.length = 0 := by omega
    have heq' : blO a b = appO acc (appO a' (appO b' .nil)) := by
      rw [heq]
      rcases hor with h | h
      · rw [OA_nil hAa h, appO_nil]; rfl
      · rw [OA_nil hAb h, blO_nil]; show appO acc a' = appO acc (appO a' .nil); rw [appO_nil]
    have hl1 : la'.length ≠ 0 → lb'.length = 0 := by omega
    obtain ⟨Ao, co, hov⟩ := hP.2.sh
    have ho1 : ov.oneCell' = true := by rw [hov]; rfl
    have hRl : R2 S' w3 ov l := po_R2 hP (by omega) (fun j hj h => by have := po_ge hP j hj; have := hS j h; omega)
    have hRa3 := hRa.below hb03
    have hRb3 := hRb.below hb03
    have hOA := OA_app hAc (OA_app hAa hAb)
    rw [show appO acc (appO a' b') = blO a b by rw [heq', appO_nil]] at hOA
    have h1c : ∀ x, x ∈ [l, la', lb'] → ∀ p, p ∈ x → p.1.oneCell' = true := fun x hx => by
      simp only [List.mem_cons, List.not_mem_nil, or_false] at hx
      rcases hx with rfl | rfl | rfl
      · exact OA_one hAc
      · exact OA_one hAa
      · exact OA_one hAb
    by_cases hl0 : la'.length = 0
    all_goals (
      (repeat (first | with_reducible refine W.seq ?_ | with_reducible refine Ops.nil ?_ | with_reducible refine W.region ?_ | refine z_p (kk := ?_) | refine z_y (kk := ?_) | refine z_n (kk := ?_) | refine z_l (kk := ?_) | refine z_g (kk := ?_) | refine z_h (kk := ?_)))
      refine W.condF rfl (by first | rfl | (simp; done) | (simp [hl1 hl0]; done) | (simp; omega)) ?_
      (repeat (first | with_reducible refine W.seq ?_ | with_reducible refine W.region ?_ | refine z_p (kk := ?_) | refine W.exit rfl ?_))
      refine Ops.bsG (cs := #[ov, .slice Aa la'.length ca, .slice Ab lb'.length cb]) (vs := [(0, ov), (1, .slice Aa la'.length ca), (2, .slice Ab lb'.length cb)]) rfl rfl rfl rfl rfl rfl rfl rfl rfl (by rw [hov]; simp [Instr.fill, Value.cells, show Array.range 3 = #[0, 1, 2] from rfl]) (fun w4 r hM4 => ?_)
      have hb34 := Mk.bel hM4
      have hb04 := Below.via hb03 hb34
      refine Ops.call rfl rfl rfl rfl rfl (concatP_c (S' := S') (svs := [ov, .slice Aa la'.length ca, .slice Ab lb'.length cb]) (xss := [l, la', lb']) hM4.at_ rfl (fun j hj => by
        match j, hj with
        | 0, _ => exact hRl.below hb34
        | 1, _ => exact hRa3.below hb34
        | 2, _ => exact hRb3.below hb34) h1c (by simp; omega) (by simp)) (fun v5 w5 hR => ?_)
      obtain ⟨hP5, hb45⟩ := hR
      have hb05 := Below.via hb04 hb45
      have hs4 := hb04.size
      have hM5 : OM S' w5 v5 (blO a b) := by
        refine ⟨_, po_R2 hP5 (by simp; omega) (fun j hj h => by have := po_ge hP5 j hj; have := hS j h; omega), ?_⟩
        have := hOA.kp (Kp.of_below (S := fun _ => False) hb05) (fun _ e => e.elim)
        simpa using this
      refine Ops.callP rfl rfl rfl rfl rfl (checked_c hM5 (by omega)) (fun r w7 hR => ?_) (fun ch w7 hR => ?_)
      · obtain ⟨rfl, hbig, hb67⟩ := hR
        (repeat (first | with_reducible refine Ops.nil ?_ | refine z_p (kk := ?_)))
        exact W.fretP rfl ⟨hbig, hM5.below hb67, Below.via hb05 hb67⟩
      · obtain ⟨rfl, hbig, hb67⟩ := hR
        exact ⟨rfl, hbig, Below.via hb05 hb67⟩)
def blG (a b : Od) : Except Int Od := if bigT (blO a b) = true then .error 5 else .ok (blO a b)
theorem blend_fun : FunO 96 blG := ⟨rfl, fun {S' w va vb a b} hS hA hB na nb sa sb za zb => by
  have h1 := small_most sa
  have h2 := small_most sb
  have h3 := most_top a
  have h4 := most_top b
  have hsz := bl_sizes a b
  have h5 := most_eq (blO a b)
  have h6 := exM_le a
  have h7 := exM_le b
  refine (blend_c hS hA hB (by omega) (by omega) (by omega) (by omega)).mono fun e w' h => ?_
  rcases h with ⟨v, he, h5, h6, h7⟩ | ⟨ch, he, h5, h6, h7⟩
  · exact .inl ⟨v, he, blO a b, by unfold blG; rw [if_neg (by rw [h5]; simp)], h6, h7, by omega, by omega⟩
  · exact .inr ⟨ch, he, 5, h5, by unfold blG; rw [if_pos h6], h7⟩⟩
theorem Blend_c {w : World} {s t : List UInt8} (hs : s.length ≤ 4294967295) (ht : t.length ≤ 4294967295) (hT : Tbl w) :
    Calls Tryz.prog 50 #[S s, S t] w (Ret fun r w' => r = .tuple #[S (outS (bothR blG s t)), .int .i64 (outE (bothR blG s t))] ∧ Below w.heap.size w w') := by
  refine calls_W (vs := [_, _]) Tryz.func50 rfl (by kernel_rfl) rfl ?_
  (repeat (first | with_reducible refine W.seq ?_ | with_reducible refine Ops.nil ?_ | with_reducible refine W.region ?_ | refine z_p (kk := ?_)))
  refine Ops.call rfl rfl rfl rfl rfl (both_c blend_fun hs ht hT) (fun r w1 hR => ?_)
  obtain ⟨rfl, hb1⟩ := hR
  (repeat (first | with_reducible refine Ops.nil ?_ | refine z_p (kk := ?_)))
  exact W.fret rfl ⟨rfl, hb1⟩
end Go.Proofs.YtcmjlmnfdncajaaGreatDoor
namespace Go.Proofs.YtcmjlmnfdncajaaGreatDoor.VW
open Go Go.RowKit
section
variable {α : Type} [Inhabited α]
theorem fp2_set1 {fa fb : α → Value} {u : α} : ∀ (os : List α) (i : Nat), i < os.length → fa u = fa (os.getD i default) → (fp2 fa fb os).set (i * 2 + 1) (fb u) = fp2 fa fb (os.set i u)
  | [], i, h, _ => by simp at h
  | z :: r, 0, _, h => by
    have h' : fa u = fa z := h
    simp [fp2, h']
  | z :: r, i + 1, h, h' => by
    have := fp2_set1 (fa := fa) (fb := fb) (u := u) r i (by simpa using h) (by simpa using h')
    rw [show (i + 1) * 2 + 1 = i * 2 + 1 + 1 + 1 by omega]
    simp only [fp2, List.set_cons_succ, this]
variable {P : Program} [hT : Tab P] {n : Nat} {ds : List Deferred} {Φ : Post} {k : List It} {ρ : E} {w : World} {all : Array Oper} {l : List Oper}
/-- The second cell of an element is written. -/
theorem Ops.stP1 {fa fb : α → Value} {w0 : World} {o2 : Oper} {t' e : Nat} {x z : Operand} {v : Value} {u : α} {i : Nat} {os : List α} {g m c : Nat}
    (ho2 : o2.op = .store t' x z) (hd2 : o2.dst = none) (hg2 : o2.guard = none) (hs' : tyS P t' = some 1) (hv : v = .slice (some ⟨g, 0, none⟩) m c) (hx : ev ρ x = some (.pointer (some ⟨g, i * 2 + 1, none⟩))) (hz : ev ρ z = some (fb u)) (h1b : (fb u).oneCell' = true) (hfa : fa u = fa (os.getD i default))
    (hO : OP e fa fb w0 w v os) (h1 : i < os.length)
    (hk : ∀ w', OP e fa fb w0 w' v (os.set i u) → Kp (fun b => v.ownBlock = some b) w w' → w'.heap.size = w.heap.size → Ops none P n ds all k Φ l ρ w') : Ops none P n ds all k Φ (o2 :: l) ρ w := by
  subst hv
  have hown := hO.own
  rcases hown.2 with ⟨h2, _⟩ | ⟨g, cap, cur, h2, _, hg, hnc, hx2, hcs, ht'⟩
  · cases h2
  · cases h2
    obtain ⟨s2, g2⟩ := hown.stored (i * 2 + 1) (fb u)
    rw [fp2_set1 _ _ h1 hfa] at s2
    obtain ⟨a1, a2⟩ := fp2_get (fa := fa) (fb := fb) os i h1
    have c2 := hown.cells (g := g) rfl _ _ a2
    rw [add_lit, Nat.zero_add] at c2
    have f1 : w.frozen? ⟨g, i * 2 + 1, none⟩ = false := by simp [World.frozen?, hg]
    have r2 := run_store (P := P) h1b c2 f1
    have kk := Kp.of_grown g2
    have kS : Kp (fun b => (Value.slice (some ⟨g, 0, none⟩) os.length c).ownBlock = some b) w (w.setCell ⟨g, i * 2 + 1, none⟩ (fb u)) := kk.mono (fun b _ e => by simp at e; simp [Value.ownBlock, e])
    have hcs2 : (fb u).cells = #[fb u] := by cases h : fb u <;> simp_all [Value.oneCell', Value.cells]
    refine Ops.unit hg2 hd2 (fun a hr => ?_) (hk _ ⟨Below.put hO.bel kS (fun i hi => hO.ge i hi), by simpa using s2, hO.ge⟩ kS (by simp))
    simp only [execOp, ho2, hr.ev hx, hr.ev hz]
    simp [Instr.storeAt, Instr.sureAddr, storeVar, run_sizeOf hs', hcs2, storeCells, add_lit, r2]
end
end Go.Proofs.YtcmjlmnfdncajaaGreatDoor.VW
namespace Go.Proofs.YtcmjlmnfdncajaaGreatDoor
open Go Go.RowKit Go.Proofs.YtcmjlmnfdncajaaGreatDoor.VW Go.Proofs.YtcmjlmnfdncajaaGreatDoor.TW
attribute [local irreducible] W Ops OrdA VW.Ord OrdX Wi OpsI OrdF
theorem om_lit2 {S' : Nat → Prop} {w w1 : World} {r c : Nat} {va : Value} {a : Od} (hS : ∀ i, S' i → i < w.heap.size) (hA : OM S' w va a) (hM : Mk w w1 r (.cells #[va, .int .i64 (c : Int)] 119)) : OM S' w1 (.slice (some ⟨r, 0, none⟩) 1 1) (.cons a c .nil) := by
  have e1 := hM.r_eq
  have B1 : Blk w1 r #[va, .int .i64 (c : Int)] 119 := hM.at_
  refine ⟨[(va, c)], ⟨_, _, rfl, ⟨Nat.le_refl _, by simp⟩, fun _ => ⟨_, rfl, fun h => by have := hS _ h; simp only at this; omega, fun j hj => ?_⟩⟩, ?_⟩
  · simp at hj
    subst hj
    exact ⟨B1.cell rfl, B1.cell rfl⟩
  · obtain ⟨le, h1, h2⟩ := hA
    exact ⟨va, [], le, rfl, h1.below (Mk.bel hM), h2.kp (kpF (Mk.bel hM)) (fun _ e => e.elim), rfl⟩
set_option maxHeartbeats 8000000 in
theorem product_c {S' : Nat → Prop} {w : World} {va vb : Value} {a b : Od} (hS : ∀ i, S' i → i < w.heap.size) (hA : OM S' w va a) (hB : OM S' w vb b) (ka : okS a) (kb : okS b) :
    Calls Tryz.prog 80 #[va, vb] w (RetP (fun r w' => ∃ o, prodC a b = some o ∧ OM S' w' r o ∧ Below w.heap.size w w') (fun ch w' => ch = trb 5 ∧ prodC a b = none ∧ Below w.heap.size w w')) := by
  obtain ⟨la, hRa, hAa⟩ := hA
  obtain ⟨lb, hRb, hAb⟩ := hB
  have hla := hAa.len
  have hlb := hAb.len
  have hza' := len_le_sz a
  have hzb' := len_le_sz b
  have hta := most_top a
  have htb := most_top b
  obtain ⟨ka1, ka2⟩ := ka
  obtain ⟨kb1, kb2⟩ := kb
  obtain ⟨Aa, ca, rfl⟩ := hRa.sh
  obtain ⟨Ab, cb, rfl⟩ := hRb.sh
  refine calls_WP (vs := [_, _]) Tryz.func80 rfl (by kernel_rfl) rfl ?_
  (repeat (first | with_reducible refine W.seq ?_ | with_reducible refine Ops.nil ?_ | with_reducible refine W.region ?_ | refine z_p (kk := ?_) | refine z_l (kk := ?_)))
  by_cases h0 : la.length = 0
  · refine W.condT rfl (by first | rfl | assumption | (simp only [bnf] <;> omega) | (simp only [*, bnf]; done) | fail) ?_
    (repeat (first | with_reducible refine W.seq ?_ | with_reducible refine Ops.nil ?_ | with_reducible refine W.region ?_ | refine z_p (kk := ?_)))
    exact W.fretP rfl ⟨.nil, by rw [OA_nil hAa h0]; rfl, OM.nil, Below.refl _ _⟩
  · obtain ⟨ae, ac, ar, ve, la2, rfl, rfl, hEa, hAr⟩ := OA_cons hAa (by omega)
    have ha1 := hEa.one
    have hl1 : ((ve, ac) :: la2).length = la2.length + 1 := rfl
    simp only [mostO, szO, topO] at ka1 ka2 hta
    have hll : la2.length ≤ 60 := by simp only [szO] at hza'; omega
    refine W.condF rfl (by first | rfl | assumption | (simp only [bnf] <;> omega) | (simp only [*, bnf]; done) | fail) ?_
    (repeat (first | with_reducible refine W.seq ?_ | with_reducible refine Ops.nil ?_ | with_reducible refine W.region ?_ | refine z_p (kk := ?_) | with_reducible refine W.skip ?_ | with_reducible refine W.block ?_ | refine z_l (kk := ?_)))
    refine W.loop (fun m ρ w3 => ∃ (i : Nat) (acc : Od) (ov : Value), m = lb.length - i ∧ i ≤ lb.length ∧ ρ = [(0, .slice Aa (la2.length + 1) ca), (5, ov), (12, .slice Ab lb.length cb), (13, .int .i64 lb.length), (14, .int .i64 i)] ∧ Below w.heap.size w w3 ∧ OM S' w3 ov acc ∧ prodC (.cons ae ac ar) b = prodL ae ac ar acc (dropO b i) ∧ szO acc ≤ 60 ∧ topO acc ≤ 1000)
      ⟨_, _, ⟨0, .nil, _, rfl, Nat.zero_le _, rfl, Below.refl _ _, OM.nil, by rw [dropO_zero]; rfl, by simp [szO], by simp [topO]⟩, (by repeat (first | exact trivial | refine And.intro rfl ?_))⟩ ?_
    rintro m ρ w3 ⟨i, acc, ov, rfl, hi, rfl, hb03, hO, heq, hz3, ht3⟩
    have hb33 : Below w3.heap.size w3 w3 := Below.refl _ _
    have hs3 := hb03.size
    by_cases hil : i < lb.length
    · obtain ⟨b2, bM⟩ := hAb.at_ (i := i) (by omega)
      have hb1 := bM.one
      have hnm := nth_most (o := b) (i := i) (by omega)
      have hns := nthE_sz (o := b) (i := i) (by omega)
      rw [dropO_cons (by omega), prodL] at heq
      generalize hvb : (lb.getD i default).1 = vb at *
      (repeat (first | with_reducible refine W.seq ?_ | with_reducible refine Ops.nil ?_ | with_reducible refine W.region ?_ | refine z_p (kk := ?_)))
      refine W.condT rfl (by first | rfl | assumption | (simp only [bnf] <;> omega) | (simp only [*, bnf]; done) | fail) ?_
      (repeat (first | with_reducible refine W.seq ?_ | with_reducible refine W.region ?_ | with_reducible refine W.skip ?_ | with_reducible refine W.block ?_ | refine z_R2 (kk := fun _ => ?_)))
      rw [hvb, b2]
      refine Ops.alloc rfl rfl rfl rfl (fun w4 b6 hM4 => ?_)
      skip
      refine Ops.stN (vs := [vb, .int .i64 (nthC b i : Nat)]) (cs := [.slice none 0 0, .int .i64 0]) rfl rfl rfl rfl rfl rfl (by intro v hv; simp at hv; rcases hv with rfl | rfl; exact hb1; rfl) rfl hM4.at_ (fun w5 hu5 => ?_)
      have B5 : Blk w5 b6 #[vb, .int .i64 (nthC b i : Nat)] 119 := hu5.blk
      have e4 := hM4.r_eq
      have hb35 : Below w3.heap.size w3 w5 := Below.put (Mk.bel hM4) hu5.kp (fun k e => by omega)
      have hb05 := Below.via hb03 hb35
      have hb55 : Below w5.heap.size w5 w5 := Below.refl _ _
      have hs5 := hb05.size
      clear hb33 hM4 hu5
      (repeat (first | with_reducible refine W.seq ?_ | with_reducible refine Ops.nil ?_ | with_reducible refine W.region ?_ | refine z_f (kk := ?_) | refine z_d (kk := ?_)))
      obtain ⟨le, hRe, hAe⟩ := id bM
      obtain ⟨Ae, ce, hve⟩ := hRe.sh
      rw [hve]
      (repeat (first | with_reducible refine Ops.nil ?_ | refine z_p (kk := ?_) | refine z_l (kk := ?_)))
      by_cases he0 : le.length = 0
      · have hbe := OA_nil hAe he0
        rw [hbe] at heq
        have hst : stL ae ac ar acc .nil (nthC b i) = (chk (.cons ae (ac * nthC b i) ar)).bind (addC acc) := rfl
        rw [hst] at heq
        have hmul : ac * nthC b i ≤ 1000 * 1000 := Nat.mul_le_mul (by omega) (by omega)
        refine W.condT rfl (by first | rfl | assumption | (simp only [bnf] <;> omega) | (simp only [*, bnf]; done) | fail) ?_
        (repeat (first | with_reducible refine W.seq ?_ | with_reducible refine W.region ?_ | refine z_p (kk := ?_)))
        refine Ops.call rfl rfl rfl rfl rfl (clone_c (hRa.below hb05) (OA_one hAa) (by omega)) (fun v8 w6 hR => ?_)
        obtain ⟨hP6, hb56⟩ := hR
        have hb06 := Below.via hb05 hb56
        have B6 := B5.kp (kpF hb56) (fun e => e)
        have hb66 : Below w6.heap.size w6 w6 := Below.refl _ _
        obtain ⟨g8, c8, hv8, hc8⟩ := hP6.2.at_ (by omega)
        have hge8 : ∀ k, v8.ownBlock = some k → w5.heap.size ≤ k := po_ge hP6
        have hR8 : R2 S' w6 v8 ((ve, ac) :: la2) := po_R2 hP6 (by omega) (fun j hj h => by have := hge8 j hj; have := hS j h; omega)
        subst hv8
        (repeat (first | with_reducible refine W.seq ?_ | with_reducible refine Ops.nil ?_ | refine z_p (kk := ?_)))
        refine W.ordA 9 [(0, 1), (1, 1), (2, 1), (3, 2), (4, 1), (5, 2), (6, 1), (7, 1), (8, 1), (9, 0)] rfl (by kernel_rfl) rfl (by kernel_rfl) (fun _ _ _ h => h) ?_
        (repeat (first | refine x_p (kk := ?_)))
        refine x_R1 (i := 0) (hR := hR8) (hF := fun _ h => h) (hi := by omega) (kk := fun p q => ?_)
        rw [show (((ve, ac) :: la2).getD 0 default).2 = ac from rfl]
        refine x_f2 (kk := ?_)
        refine x_D (kk := ?_)
        refine x_ev rfl (fun _ => EV.mulN rfl rfl rfl (by omega)) (kk := ?_)
        refine x_ev rfl (fun _ => EV.idx rfl rfl rfl rfl rfl (by omega) (by omega)) (kk := ?_)
        refine x_ev rfl (fun _ => EV.fld rfl rfl rfl) (kk := ?_)
        refine OrdA.tail (fun w9 hb69 => ?_)
        have hb09 := Below.via hb06 hb69
        have hP9 := po_kp hP6 (kpF hb69) (fun _ _ e => e)
        refine VW.Ord.effT rfl (Ops.stP1 (i := 0) (u := (ve, ac * nthC b i)) rfl rfl rfl rfl rfl rfl rfl rfl rfl hP9.2 (by omega) (fun w10 hO10 k10 hsz10 => Ops.nil (W.endl ?_)))
        have hP10 := po_put hP9 (tr_size hP9.1) hO10 (by omega)
        rw [show ((ve, ac) :: la2).set 0 (ve, ac * nthC b i) = (ve, ac * nthC b i) :: la2 from rfl] at hP10
        have hb10 : Below w.heap.size w w10 := Below.put hb09 k10 (fun j hj => by have := hge8 j hj; omega)
        have hM10 : OM S' w10 (.slice (some ⟨g8, 0, none⟩) ((ve, ac) :: la2).length c8) (.cons ae (ac * nthC b i) ar) := by
          refine ⟨(ve, ac * nthC b i) :: la2, po_R2 hP10 (by simp; omega) (fun j hj h => by have := hge8 j hj; have := hS j h; omega), ?_⟩
          obtain ⟨le', h1, h2⟩ := hEa.below hb10
          exact ⟨ve, la2, le', rfl, h1, h2, hAr.kp (kpF hb10) (fun _ e => e.elim)⟩
        have hO2 : OM (fun j => S' j ∨ w3.heap.size ≤ j) w3 ov acc := hO.more (fun j hj => hj)
        have hO3 := (hO2.below (Below.via hb35 (Below.via hb56 hb69))).kp k10 (fun j hj => .inr (by have := hge8 j hj; have := hb35.size; omega))
        have hO11 : OM S' w10 ov acc := hO3.more (fun j hj => .inl (.inl hj))
        refine VW.Ord.nil ?_
        (repeat (first | with_reducible refine W.seq ?_ | with_reducible refine W.region ?_ | refine z_p (kk := ?_)))
        refine Ops.callP rfl rfl rfl rfl rfl (checked_c hM10 (by simp only [szO]; omega)) (fun r w11 hR => ?_) (fun ch w11 hR => ?_)
        rotate_left
        · obtain ⟨rfl, hbig, hb11⟩ := hR
          exact ⟨rfl, by rw [heq]; unfold TW.chk; rw [if_pos hbig]; rfl, Below.via hb10 hb11⟩
        obtain ⟨rfl, hbig, hb11⟩ := hR
        have hb011 := Below.via hb10 hb11
        have hs11 := hb011.size
        rw [show TW.chk (.cons ae (ac * nthC b i) ar) = some (.cons ae (ac * nthC b i) ar) by unfold TW.chk; rw [hbig]; rfl, Option.bind_some] at heq
        refine Ops.callP rfl rfl rfl rfl rfl (sum_c (S' := S') (fun j hj => by have := hS j hj; omega) (hO11.below hb11) (hM10.below hb11) (by omega) (by simp only [szO]; omega) (by omega) (by simp only [topO]; omega)) (fun r w12 hR => ?_) (fun ch w12 hR => ?_)
        rotate_left
        · obtain ⟨rfl, hno, hb12⟩ := hR
          exact ⟨rfl, by rw [heq, hno], Below.via hb011 hb12⟩
        obtain ⟨o, ho, hM12, hb12⟩ := hR
        rw [ho] at heq
        rw [addC_cons] at ho
        unfold TW.chk at ho
        split at ho
        · cases ho
        rename_i hnb
        simp only [Option.some.injEq] at ho
        rw [ho] at hnb
        have hnb' : ¬ (1000 < topO o ∨ 60 < szO o) := fun q => hnb (decide_eq_true q)
        (repeat (first | with_reducible refine Ops.nil ?_ | with_reducible refine W.region ?_ | refine z_p (kk := ?_) | refine z_a (kk := ?_) | refine W.exit rfl ?_))
        exact W.endl ⟨_, _, ⟨⟨i + 1, o, r, rfl, by omega, rfl, Below.via hb011 hb12, hM12, heq, by omega, by omega⟩, by omega⟩, (by repeat (first | exact trivial | refine And.intro rfl ?_))⟩
      · have hne : nthE b i ≠ .nil := fun e => he0 (by rw [hAe.len, e]; rfl)
        have hst : stL ae ac ar acc (nthE b i) (nthC b i) = (addC ae (nthE b i)).bind fun e => addC acc (.cons e (nthC b i) .nil) := by
          cases hx : nthE b i with
          | nil => exact absurd hx hne
          | cons _ _ _ => rfl
        rw [hst] at heq
        have hRa5 := hRa.below hb05
        have hmo1 := most_top ae
        have hmo2 := most_top (nthE b i)
        refine W.condF rfl (by simpa using he0) ?_
        (repeat (first | with_reducible refine W.skip ?_))
        obtain ⟨p0, c0, hpe, q1, q2⟩ := at2 hRa5 (i := 0) (by omega)
        simp only [Value.slice.injEq] at hpe
        obtain ⟨rfl, _, rfl⟩ := hpe
        rw [show (((ve, ac) :: la2).getD 0 default).1 = ve from rfl] at q1
        refine W.ordF (fun w' => Below w5.heap.size w5 w') [0, 1, 2, 3, 4, 5, 6, 8, 9, 7, 10, 11, 12, 13] rfl (by kernel_rfl) rfl (fun _ _ _ h => h) (fun w6 k6 _ => ⟨k6.below (Nat.le_refl _) (fun _ _ e => e), ?_⟩)
        have hb56 : Below w5.heap.size w5 w6 := k6.below (Nat.le_refl _) (fun _ _ e => e)
        have hb06 := Below.via hb05 hb56
        have hs6 := hb06.size
        refine OrdF.take (by kernel_rfl) rfl rfl rfl rfl (fun w hF => EV.pu rfl) ?_
        refine OrdF.take (by kernel_rfl) rfl rfl rfl rfl (fun w hF => EV.pu rfl) ?_
        refine OrdF.take (by kernel_rfl) rfl rfl rfl rfl (fun w hF => EV.idx rfl rfl rfl rfl rfl (by omega) (by omega)) ?_
        refine OrdF.take (by kernel_rfl) rfl rfl rfl rfl (fun w hF => EV.fld rfl rfl rfl) ?_
        refine OrdF.take (by kernel_rfl) rfl rfl rfl rfl (fun w hF => EV.ld rfl rfl rfl (v := ve) ?_) ?_
        · rw [show ∀ p : Addr, p.add 0 = p from fun p => by simp [Addr.add]]
          exact cell_kp (kpF hF) q1 (fun e => e)
        refine OrdF.take (by kernel_rfl) rfl rfl rfl rfl (fun w hF => EV.fld rfl rfl rfl) ?_
        refine OrdF.take (by kernel_rfl) rfl rfl rfl rfl (fun w hF => EV.ld rfl rfl rfl (v := vb) ?_) ?_
        · exact Blk.cell (B5.kp (kpF hF) (fun e => e)) rfl
        refine OrdF.take (by kernel_rfl) rfl rfl rfl rfl (fun w hF => EV.fld rfl rfl rfl) ?_
        refine OrdF.take (by kernel_rfl) rfl rfl rfl rfl (fun w hF => EV.ld rfl rfl rfl (v := .int .i64 ((nthC b i : Nat) : Int)) ?_) ?_
        · exact Blk.cell (B5.kp (kpF hF) (fun e => e)) rfl
        refine OrdF.one 7 (by kernel_rfl) rfl (Ops.callP rfl rfl rfl rfl rfl (sum_c (S' := S') (fun j hj => by have := hS j hj; omega) (hEa.below hb06) (bM.below hb06) (by omega) (by omega) (by omega) (by omega)) (fun r w7 hR => ?_) (fun ch w7 hR => ?_))
        rotate_left
        · obtain ⟨rfl, hno, hb7⟩ := hR
          exact ⟨rfl, by rw [heq, hno]; rfl, Below.via hb06 hb7⟩
        obtain ⟨o, ho, hM7, hb67⟩ := hR
        rw [ho, Option.bind_some] at heq
        have hb57 := Below.via hb56 hb67
        have hb07 := Below.via hb05 hb57
        have hs7 := hb07.size
        have ho1 := hM7.one
        refine Ops.nil (W.endl ⟨hb57, ?_⟩)
        refine OrdF.take (by kernel_rfl) rfl rfl rfl rfl (fun w hF => EV.bld2 rfl rfl rfl rfl rfl ho1 rfl) ?_
        refine OrdF.one 11 (by kernel_rfl) rfl (Ops.bsG (cs := #[r, .int .i64 ((nthC b i : Nat) : Int)]) (vs := [(0, .agg #[r, .int .i64 ((nthC b i : Nat) : Int)])]) rfl rfl rfl rfl rfl rfl rfl rfl rfl (by simp [Instr.fill, Value.cells, show Array.range 2 = #[0, 1] from rfl]) (fun w8 r8 hM8 => ?_))
        have hb78 := Mk.bel hM8
        have hb58 := Below.via hb57 hb78
        have hb08 := Below.via hb05 hb58
        have hs8 := hb08.size
        have hL := om_lit2 (S' := S') (fun j hj => by have := hS j hj; omega) hM7 hM8
        refine Ops.nil (W.endl ⟨hb58, ?_⟩)
        have hoz : szO o ≤ 200 ∧ topO o ≤ 1000000 := by
          have hz2 : ∃ be bc br, nthE b i = .cons be bc br := by
            cases hx : nthE b i with
            | nil => exact absurd hx hne
            | cons be bc br => exact ⟨be, bc, br, rfl⟩
          obtain ⟨be, bc, br, hx⟩ := hz2
          rw [hx, addC_cons] at ho
          unfold TW.chk at ho
          split at ho
          · cases ho
          · rename_i hnb
            simp only [Option.some.injEq] at ho
            rw [ho] at hnb
            have hnb' : ¬ (1000 < topO o ∨ 60 < szO o) := fun q => hnb (decide_eq_true q)
            omega
        refine OrdF.one 12 (by kernel_rfl) rfl (Ops.callP rfl rfl rfl rfl rfl (sum_c (S' := S') (fun j hj => by have := hS j hj; omega) (hO.below (Below.via hb35 hb58)) hL (by omega) (by simp only [szO]; omega) (by omega) (by simp only [topO]; omega)) (fun r9 w9 hR => ?_) (fun ch w9 hR => ?_))
        rotate_left
        · obtain ⟨rfl, hno, hb9⟩ := hR
          exact ⟨rfl, by rw [heq, hno], Below.via hb08 hb9⟩
        obtain ⟨o2, ho2, hM9, hb89⟩ := hR
        have hb59 := Below.via hb58 hb89
        have hb09 := Below.via hb05 hb59
        rw [ho2] at heq
        rw [addC_cons] at ho2
        unfold TW.chk at ho2
        split at ho2
        · cases ho2
        rename_i hnb
        simp only [Option.some.injEq] at ho2
        rw [ho2] at hnb
        have hnb' : ¬ (1000 < topO o2 ∨ 60 < szO o2) := fun q => hnb (decide_eq_true q)
        refine Ops.nil (W.endl ⟨hb59, ?_⟩)
        refine OrdF.take (by kernel_rfl) rfl rfl rfl rfl (fun w hF => EV.pu rfl) ?_
        refine OrdF.done (by kernel_rfl) ?_
        (repeat (first | with_reducible refine Ops.nil ?_ | with_reducible refine W.region ?_ | refine z_p (kk := ?_) | refine z_a (kk := ?_) | with_reducible refine W.endb ?_))
        exact W.endl ⟨_, _, ⟨⟨i + 1, o2, r9, rfl, by omega, rfl, hb09, hM9, heq, by omega, by omega⟩, by omega⟩, (by repeat (first | exact trivial | refine And.intro rfl ?_))⟩
    · have hil' : i = lb.length := by omega
      subst hil'
      rw [hlb, dropO_len] at heq
      (repeat (first | with_reducible refine W.seq ?_ | with_reducible refine Ops.nil ?_ | with_reducible refine W.region ?_ | refine z_p (kk := ?_)))
      refine W.condF rfl (by first | rfl | assumption | (simp only [bnf] <;> omega) | (simp only [*, bnf]; done) | fail) ?_
      (repeat (first | with_reducible refine W.seq ?_ | with_reducible refine Ops.nil ?_ | with_reducible refine W.region ?_ | refine z_p (kk := ?_) | refine W.exit rfl ?_))
      exact W.fretP rfl ⟨acc, heq, hO, hb03⟩
def prodF (a b : Od) : Except Int Od := match prodC a b with
  | some o => .ok o
  | none => .error 5
theorem prod_fun : FunO 80 prodF := ⟨rfl, fun {S' w va vb a b} hS hA hB na nb sa sb za zb => by
  have h1 := small_most sa
  have h2 := small_most sb
  refine (product_c hS hA hB ⟨h1, za⟩ ⟨h2, zb⟩).mono fun e w' h => ?_
  rcases h with ⟨v, he, o, h5, h6, h7⟩ | ⟨ch, he, h5, h6, h7⟩
  · have := (prodC_spec na nb ⟨h1, za⟩ ⟨h2, zb⟩ h5).2
    exact .inl ⟨v, he, o, by unfold prodF; rw [h5], h6, h7, by have := this.2; omega, by have := this.1; omega⟩
  · exact .inr ⟨ch, he, 5, h5, by unfold prodF; rw [h6], h7⟩⟩
theorem Product_c {w : World} {s t : List UInt8} (hs : s.length ≤ 4294967295) (ht : t.length ≤ 4294967295) (hT : Tbl w) :
    Calls Tryz.prog 34 #[S s, S t] w (Ret fun r w' => r = .tuple #[S (outS (bothR prodF s t)), .int .i64 (outE (bothR prodF s t))] ∧ Below w.heap.size w w') := by
  refine calls_W (vs := [_, _]) Tryz.func34 rfl (by kernel_rfl) rfl ?_
  (repeat (first | with_reducible refine W.seq ?_ | with_reducible refine Ops.nil ?_ | with_reducible refine W.region ?_ | refine z_p (kk := ?_)))
  refine Ops.call rfl rfl rfl rfl rfl (both_c prod_fun hs ht hT) (fun r w1 hR => ?_)
  obtain ⟨rfl, hb1⟩ := hR
  (repeat (first | with_reducible refine Ops.nil ?_ | refine z_p (kk := ?_)))
  exact W.fret rfl ⟨rfl, hb1⟩
end Go.Proofs.YtcmjlmnfdncajaaGreatDoor
