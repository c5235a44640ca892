/- A part of the walk: what this seat's statements share. -/
import Derived.Test.YtcmjlmnfdncajaaGreatDoorZTowerStepsG1
import Derived.Test.YtcmjlmnfdncajaaGreatDoorZG8
import Derived.Test.YtcmjlmnfdncajaaGreatDoorZG7
import Derived.Test.YtcmjlmnfdncajaaGreatDoorZG5
import Derived.Test.YtcmjlmnfdncajaaGreatDoorZG10
set_option linter.unusedVariables false
set_option linter.unusedSimpArgs false
set_option linter.unusedSectionVars false
namespace Go.Proofs.YtcmjlmnfdncajaaGreatDoor.VW
open Go Go.RowKit
section
variable {P : Program} [hT : Tab P] {n : Nat} {ρ : E} {w : World}
omit hT in
theorem EV.sub8 {o : Oper} {u v : Nat} {t t' : Nat} {x y : Operand} (ho : o.op = .binOp .sub t x y t') (hx : ev ρ x = some (.int .u8 (u : Int))) (hy : ev ρ y = some (.int .u8 (v : Int))) (hv : v ≤ u) (hu : u < 256) : EV P n ρ w o (.int .u8 ((u - v : Nat) : Int)) := by
  refine EV.bw ho hx hy ?_
  have h2 : IntKind.u8.wrap ((u : Int) - (v : Int)) = ((u - v : Nat) : Int) := by
    have : ((u : Int) - (v : Int)) % 256 = ((u - v : Nat) : Int) := by omega
    simp [IntKind.wrap, IntKind.bits, IntKind.signed, this]
  simp only [VW.bw, h2]
end
end Go.Proofs.YtcmjlmnfdncajaaGreatDoor.VW
namespace Go.Proofs.YtcmjlmnfdncajaaGreatDoor
open Go Go.RowKit Go.Proofs.YtcmjlmnfdncajaaGreatDoor.VW Go.Proofs.YtcmjlmnfdncajaaGreatDoor.TW
attribute [local irreducible] W Ops OrdA VW.Ord OrdX Wi OpsI OrdF
/-- What the reference's reader answers. -/
def RdOut (n : Nat) (s : List UInt8) (i : Nat) (w : World) (r : Value) (w' : World) : Prop :=
  (∃ o j v, r = .tuple #[v, .int .i64 ((j : Nat) : Int)] ∧ rdE (fun s => rdP n s none) (s.drop i) = some (o, s.drop j) ∧ i < j ∧ j ≤ s.length ∧ szO o + i ≤ j ∧ OM (fun k => k < w.heap.size) w' v o) ∨ (∃ v, r = .tuple #[v, .int .i64 (-1)] ∧ rdE (fun s => rdP n s none) (s.drop i) = none)
set_option maxHeartbeats 16000000 in
theorem rread_c : ∀ (n : Nat) {w : World} {s : List UInt8} {i : Nat}, s.length ≤ 1000 → i ≤ s.length → (s.drop i).length < n →
    Calls Tryz.prog 78 #[S s, .int .i64 (i : Int)] w (Ret fun r w' => RdOut n s i w r w' ∧ Below w.heap.size w w') := by
  intro n
  induction n using Nat.strongRecOn with
  | _ n ih =>
  intro w s i hs hi hn
  rw [List.length_drop] at hn
  refine calls_W (vs := [_, _]) Tryz.func78 rfl (by kernel_rfl) rfl ?_
  have hb00 : Below w.heap.size w w := Below.refl _ _
  refine W.seq ?_
  refine W.cut (fun ρ w' => ρ = [(0, S s), (1, .int .i64 (i : Int))] ∧ w' = w) ?_ ?_
  · (repeat (first | with_reducible refine Ops.nil ?_ | with_reducible refine W.region ?_ | refine z_p (kk := ?_)))
    exact W.endl ⟨_, ⟨rfl, rfl⟩, (by repeat (first | exact trivial | refine And.intro rfl ?_))⟩
  rintro ρ w' ⟨rfl, rfl⟩
  refine W.seq ?_
  refine W.cut (fun ρ w'' => ρ = [(0, S s), (1, .int .i64 (i : Int))] ∧ w'' = w' ∧ (i < s.length → (s.getD i 0).toNat ≠ 48)) ?_ ?_
  · by_cases h1 : i < s.length
    · have hd1 : decide ((i : Int) < (s.length : Int)) = true := decide_eq_true (by omega)
      by_cases h2 : (s.getD i 0).toNat = 48
      · (repeat (first | with_reducible refine W.seq ?_ | with_reducible refine Ops.nil ?_ | with_reducible refine W.region ?_ | refine z_p (kk := ?_) | refine z_y (kk := ?_) | refine z_ev (EV.slen rfl rfl rfl) (kk := ?_) | refine z_ev (EV.sidx rfl rfl rfl rfl (by omega)) (kk := ?_) | refine z_h (kk := ?_)))
        refine W.condT rfl (by rw [h2]; rfl) ?_
        (repeat (first | with_reducible refine W.seq ?_ | with_reducible refine Ops.nil ?_ | with_reducible refine W.region ?_ | refine z_p (kk := ?_) | refine z_a (kk := ?_)))
        exact W.fret rfl ⟨.inl ⟨.nil, i + 1, _, rfl, rdE_zero h1 h2, by omega, by omega, by simp only [szO]; omega, OM.nil⟩, hb00⟩
      · have h2' := h2
        have hd2 : (((s.getD i 0).toNat : Int) == 48) = false := by rw [beq_eq_false_iff_ne]; omega
        (repeat (first | with_reducible refine W.seq ?_ | with_reducible refine Ops.nil ?_ | with_reducible refine W.region ?_ | refine z_p (kk := ?_) | refine z_y (kk := ?_) | refine z_ev (EV.slen rfl rfl rfl) (kk := ?_) | refine z_ev (EV.sidx rfl rfl rfl rfl (by omega)) (kk := ?_) | refine z_h (kk := ?_)))
        refine W.condF rfl (by first | assumption | (simp; done) | (simp; omega)) ?_
        (repeat (first | with_reducible refine W.skip ?_))
        exact W.endl ⟨_, ⟨rfl, rfl, fun _ => h2'⟩, (by repeat (first | exact trivial | refine And.intro rfl ?_))⟩
    · have hd1 : decide ((i : Int) < (s.length : Int)) = false := decide_eq_false (by omega)
      (repeat (first | with_reducible refine W.seq ?_ | with_reducible refine Ops.nil ?_ | with_reducible refine W.region ?_ | refine z_p (kk := ?_) | refine z_n (kk := ?_) | refine z_ev (EV.slen rfl rfl rfl) (kk := ?_) | refine z_g (kk := ?_)))
      refine W.condF rfl (by first | rfl | (simp; done) | (simp; omega)) ?_
      (repeat (first | with_reducible refine W.skip ?_))
      exact W.endl ⟨_, ⟨rfl, rfl, fun h => absurd h h1⟩, (by repeat (first | exact trivial | refine And.intro rfl ?_))⟩
  rintro ρ w ⟨rfl, rfl, h48⟩
  have hrd : rdE (fun s => rdP n s none) (s.drop i) = rdP n (s.drop i) none := rdE_else (f := fun s => rdP n s none) h48
  unfold RdOut
  rw [hrd]
  clear hrd
  (repeat (first | with_reducible refine W.seq ?_ | with_reducible refine Ops.nil ?_ | with_reducible refine W.region ?_ | refine z_p (kk := ?_) | with_reducible refine W.block ?_))
  refine W.loop (fun m ρ w1 => ∃ (k m1 : Nat) (acc : Od) (l : List (Value × Nat)) (ov : Value), m = s.length + 1 - k ∧ ρ = [(0, S s), (1, .int .i64 (k : Int)), (6, ov)] ∧ i ≤ k ∧ k ≤ s.length ∧ Below w.heap.size w w1 ∧
      PR w.heap.size w1 ov l ∧ OA (fun j => j < w.heap.size ∨ ov.ownBlock = some j) w1 acc l ∧ szO acc + i ≤ k ∧ s.length - k < m1 ∧ m1 ≤ n ∧ rdP n (s.drop i) none = (rdP m1 (s.drop k) (lastE acc)).map (fun q => (appO acc q.1, q.2)))
    ⟨_, _, ⟨i, n, .nil, [], _, rfl, rfl, Nat.le_refl _, hi, hb00, PR.nil (Nat.le_refl _), rfl, by simp only [szO]; omega, hn, Nat.le_refl _, by show rdP n (s.drop i) none = (rdP n (s.drop i) none).map _; cases rdP n (s.drop i) none <;> rfl⟩, (by repeat (first | exact trivial | refine And.intro rfl ?_))⟩ ?_
  rintro m ρ w1 ⟨k, m1, acc, l, ov, rfl, rfl, hik, hk, hb1, hP, hA, hsz, hm1, hm1n, hres⟩
  obtain ⟨m', rfl⟩ : ∃ m', m1 = m' + 1 := ⟨m1 - 1, by omega⟩
  have hlen := hA.len
  have hlz := len_le_sz acc
  have hP0 := hP.1
  obtain ⟨Ao, co, rfl⟩ := hP.2.sh
  have hnone : (∀ r t, ¬ rdP (m' + 1) (s.drop k) (lastE acc) = some (r, t)) → rdP n (s.drop i) none = none := fun h1 => by
    rw [hres]
    cases hx : rdP (m' + 1) (s.drop k) (lastE acc) with
    | none => rfl
    | some u => exact absurd hx (h1 u.1 u.2)
  by_cases h3 : k + 3 ≤ s.length
  rotate_left
  · have hp1 : pre sW (s.drop k) = none := pre_short (p := sW) (show s.length < k + 3 by omega) hk
    have hno := hnone (fun r t h => by
      obtain ⟨t1, e, t2, t3, c, t4, q1, _⟩ := rdP_inv h
      rw [hp1] at q1; simp at q1)
    (repeat (first | with_reducible refine W.seq ?_ | with_reducible refine Ops.nil ?_ | with_reducible refine W.region ?_ | refine z_p (kk := ?_) | refine z_a (kk := ?_) | refine z_n (kk := ?_) | with_reducible refine W.block ?_ | refine z_ev (EV.slen rfl rfl rfl) (kk := ?_) | refine z_g (kk := ?_)))
    refine W.condT rfl (by first | (simp; done) | (simp; omega)) ?_
    (repeat (first | with_reducible refine W.seq ?_ | with_reducible refine Ops.nil ?_ | with_reducible refine W.region ?_ | refine z_p (kk := ?_)))
    exact W.fret rfl ⟨.inr ⟨_, rfl, hno⟩, hb1⟩
  have hd3 : decide ((k : Int) + 3 > (s.length : Int)) = false := decide_eq_false (by omega)
  have hpre1 := pre_sub (p := sW) (s := s) (i := k) 3 rfl
  by_cases h4 : (s.take (k + 3)).drop k = sW
  rotate_left
  · rw [if_neg h4] at hpre1
    have hno := hnone (fun r t h => by
      obtain ⟨t1, e, t2, t3, c, t4, q1, _⟩ := rdP_inv h
      rw [hpre1] at q1; simp at q1)
    have h4' : decide ((s.take (k + 3)).drop k = [119, 94, 40]) = false := decide_eq_false h4
    (repeat (first | with_reducible refine W.seq ?_ | with_reducible refine Ops.nil ?_ | with_reducible refine W.region ?_ | refine z_p (kk := ?_) | refine z_a (kk := ?_) | refine z_y (kk := ?_) | with_reducible refine W.block ?_ | refine z_ev (EV.slen rfl rfl rfl) (kk := ?_) | refine z_ev (EV.sne rfl rfl rfl rfl) (kk := ?_) | refine z_ev (EV.ssub rfl rfl rfl rfl rfl (by omega) (by omega)) (kk := ?_) | refine z_h (kk := ?_)))
    refine W.condT rfl (by first | rfl | assumption | (simp [h4']; done)) ?_
    (repeat (first | with_reducible refine W.seq ?_ | with_reducible refine Ops.nil ?_ | with_reducible refine W.region ?_ | refine z_p (kk := ?_)))
    exact W.fret rfl ⟨.inr ⟨_, rfl, hno⟩, hb1⟩
  rw [if_pos h4] at hpre1
  have h4' : decide ((s.take (k + 3)).drop k = [119, 94, 40]) = true := decide_eq_true h4
  (repeat (first | with_reducible refine W.seq ?_ | with_reducible refine Ops.nil ?_ | with_reducible refine W.region ?_ | refine z_p (kk := ?_) | refine z_a (kk := ?_) | refine z_y (kk := ?_) | with_reducible refine W.block ?_ | refine z_ev (EV.slen rfl rfl rfl) (kk := ?_) | refine z_ev (EV.sne rfl rfl rfl rfl) (kk := ?_) | refine z_ev (EV.ssub rfl rfl rfl rfl rfl (by omega) (by omega)) (kk := ?_) | refine z_h (kk := ?_)))
  refine W.condF rfl (by first | rfl | assumption | (simp [h4']; done)) ?_
  (repeat (first | with_reducible refine W.seq ?_ | with_reducible refine W.region ?_ | refine z_p (kk := ?_) | refine z_a (kk := ?_) | with_reducible refine W.skip ?_))
  rw [show (k : Int) + 3 = ((k + 3 : Nat) : Int) by omega]
  refine Ops.call rfl rfl rfl rfl rfl (ih m' (by omega) (i := k + 3) hs h3 (by rw [List.length_drop]; omega)) (fun r w2 hR => ?_)
  obtain ⟨hor, hb2⟩ := hR
  have hb02 := Below.via hb1 hb2
  rcases hor with ⟨e, j, ve, rfl, hE, hkj, hjs, hsze, hM2⟩ | ⟨v, rfl, hE⟩
  rotate_left
  · have hno := hnone (fun r t h => by
      obtain ⟨t1, e, t2, t3, c, t4, q1, q2, _⟩ := rdP_inv h
      rw [hpre1] at q1
      simp only [Option.some.injEq] at q1
      subst q1
      rw [hE] at q2; simp at q2)
    (repeat (first | with_reducible refine W.seq ?_ | with_reducible refine Ops.nil ?_ | with_reducible refine W.region ?_ | refine z_p (kk := ?_) | refine z_n (kk := ?_)))
    refine W.condT rfl (by first | rfl | (simp; done)) ?_
    (repeat (first | with_reducible refine W.seq ?_ | with_reducible refine Ops.nil ?_ | with_reducible refine W.region ?_ | refine z_p (kk := ?_)))
    exact W.fret rfl ⟨.inr ⟨_, rfl, hno⟩, hb02⟩
  have hdj : decide ((j : Int) < 0) = false := decide_eq_false (by omega)
  by_cases h5 : j + 2 ≤ s.length
  rotate_left
  · have hp2 : pre sM (s.drop j) = none := pre_short (p := sM) (show s.length < j + 2 by omega) hjs
    have hno := hnone (fun r t h => by
      obtain ⟨t1, e, t2, t3, c, t4, q1, q2, q3, _⟩ := rdP_inv h
      rw [hpre1] at q1
      simp only [Option.some.injEq] at q1
      subst q1
      rw [hE] at q2
      simp only [Option.some.injEq, Prod.mk.injEq] at q2
      obtain ⟨rfl, rfl⟩ := q2
      rw [hp2] at q3; simp at q3)
    (repeat (first | with_reducible refine W.seq ?_ | with_reducible refine Ops.nil ?_ | with_reducible refine W.region ?_ | refine z_p (kk := ?_) | refine z_a (kk := ?_) | refine z_y (kk := ?_) | refine z_n (kk := ?_) | refine z_ev (EV.slen rfl rfl rfl) (kk := ?_) | refine z_g (kk := ?_)))
    refine W.condT rfl (by first | (simp; done) | (simp; omega)) ?_
    (repeat (first | with_reducible refine W.seq ?_ | with_reducible refine Ops.nil ?_ | with_reducible refine W.region ?_ | refine z_p (kk := ?_)))
    exact W.fret rfl ⟨.inr ⟨_, rfl, hno⟩, hb02⟩
  have hd5 : decide ((j : Int) + 2 > (s.length : Int)) = false := decide_eq_false (by omega)
  have hpre2 := pre_sub (p := sM) (s := s) (i := j) 2 rfl
  by_cases h6 : (s.take (j + 2)).drop j = sM
  rotate_left
  · rw [if_neg h6] at hpre2
    have hno := hnone (fun r t h => by
      obtain ⟨t1, e, t2, t3, c, t4, q1, q2, q3, _⟩ := rdP_inv h
      rw [hpre1] at q1
      simp only [Option.some.injEq] at q1
      subst q1
      rw [hE] at q2
      simp only [Option.some.injEq, Prod.mk.injEq] at q2
      obtain ⟨rfl, rfl⟩ := q2
      rw [hpre2] at q3; simp at q3)
    have h6' : decide ((s.take (j + 2)).drop j = [41, 42]) = false := decide_eq_false h6
    (repeat (first | with_reducible refine W.seq ?_ | with_reducible refine Ops.nil ?_ | with_reducible refine W.region ?_ | refine z_p (kk := ?_) | refine z_a (kk := ?_) | refine z_y (kk := ?_) | refine z_ev (EV.slen rfl rfl rfl) (kk := ?_) | refine z_ev (EV.sne rfl rfl rfl rfl) (kk := ?_) | refine z_ev (EV.ssub rfl rfl rfl rfl rfl (by omega) (by omega)) (kk := ?_) | refine z_h (kk := ?_)))
    refine W.condT rfl (by first | rfl | assumption | (simp [h6']; done)) ?_
    (repeat (first | with_reducible refine W.seq ?_ | with_reducible refine Ops.nil ?_ | with_reducible refine W.region ?_ | refine z_p (kk := ?_)))
    exact W.fret rfl ⟨.inr ⟨_, rfl, hno⟩, hb02⟩
  rw [if_pos h6] at hpre2
  have h6' : decide ((s.take (j + 2)).drop j = [41, 42]) = true := decide_eq_true h6
  (repeat (first | with_reducible refine W.seq ?_ | with_reducible refine Ops.nil ?_ | with_reducible refine W.region ?_ | refine z_p (kk := ?_) | refine z_a (kk := ?_) | refine z_y (kk := ?_) | refine z_ev (EV.slen rfl rfl rfl) (kk := ?_) | refine z_ev (EV.sne rfl rfl rfl rfl) (kk := ?_) | refine z_ev (EV.ssub rfl rfl rfl rfl rfl (by omega) (by omega)) (kk := ?_) | refine z_h (kk := ?_)))
  refine W.condF rfl (by first | rfl | assumption | (simp [h6']; done)) ?_
  refine W.skip ?_
  refine W.seq ?_
  refine W.cut (fun ρ w' => ρ = [(0, S s), (1, .int .i64 ((j + 2 : Nat) : Int)), (6, .slice Ao l.length co), (7, ve)] ∧ w' = w2) ?_ ?_
  · (repeat (first | with_reducible refine Ops.nil ?_ | with_reducible refine W.region ?_ | refine z_p (kk := ?_) | refine z_a (kk := ?_)))
    exact W.endl ⟨_, ⟨rfl, rfl⟩, (by repeat (first | exact trivial | refine And.intro rfl ?_))⟩
  rintro ρ w2' ⟨rfl, rfl⟩
  refine W.seq ?_
  refine W.cut (fun ρ w' => ρ = [(0, S s), (1, .int .i64 ((j + 2 : Nat) : Int)), (6, .slice Ao l.length co), (7, ve), (9, .int .i64 0)] ∧ w' = w2') ?_ ?_
  · (repeat (first | with_reducible refine Ops.nil ?_ | with_reducible refine W.region ?_ | refine z_p (kk := ?_)))
    exact W.endl ⟨_, ⟨rfl, rfl⟩, (by repeat (first | exact trivial | refine And.intro rfl ?_))⟩
  rintro ρ w2 ⟨rfl, rfl⟩
  refine W.seq ?_
  refine W.cut (fun ρ w' => ∃ (q c : Nat), ρ = [(0, S s), (1, .int .i64 (q : Int)), (6, .slice Ao l.length co), (7, ve), (9, .int .i64 (c : Int))] ∧ w' = w2 ∧ digL 0 (s.drop (j + 2)) = (c, s.drop q) ∧ j + 2 ≤ q ∧ q ≤ s.length ∧ c ≤ 10009) ?_ ?_
  · (repeat (first | with_reducible refine W.block ?_))
    refine W.loop (fun m ρ w3 => ∃ (q c : Nat), m = s.length - q ∧ ρ = [(0, S s), (1, .int .i64 (q : Int)), (6, .slice Ao l.length co), (7, ve), (9, .int .i64 (c : Int))] ∧ w3 = w2 ∧ digL 0 (s.drop (j + 2)) = digL c (s.drop q) ∧ j + 2 ≤ q ∧ q ≤ s.length ∧ c ≤ 10009)
      ⟨_, _, ⟨j + 2, 0, rfl, rfl, rfl, rfl, Nat.le_refl _, h5, by omega⟩, (by repeat (first | exact trivial | refine And.intro rfl ?_))⟩ ?_
    rintro m ρ w3 ⟨q, c, rfl, rfl, rfl, hdig, hjq, hqs, hc⟩
    by_cases hgo : q < s.length ∧ 48 ≤ (s.getD q 0).toNat ∧ (s.getD q 0).toNat ≤ 57 ∧ c ≤ 1000 ∧ (0 < c ∨ 48 < (s.getD q 0).toNat)
    · obtain ⟨g1, g2, g3, g4, g5⟩ := hgo
      rw [dig_go g1 g2 g3 g4 g5] at hdig
      generalize hx : (s.getD q 0).toNat = x at *
      have e1 : decide ((q : Int) < (s.length : Int)) = true := decide_eq_true (by omega)
      have e2 : decide ((x : Int) ≥ 48) = true := decide_eq_true (by omega)
      have e3 : decide ((x : Int) ≤ 57) = true := decide_eq_true (by omega)
      have e4 : decide ((c : Int) ≤ 1000) = true := decide_eq_true (by omega)
      by_cases hc0 : 0 < c
      all_goals (
        (repeat (first | with_reducible refine W.seq ?_ | with_reducible refine Ops.nil ?_ | with_reducible refine W.region ?_ | refine z_p (kk := ?_) | refine z_y (kk := ?_) | refine z_n (kk := ?_) | refine z_ev (EV.slen rfl rfl rfl) (kk := ?_) | refine z_ev (EV.sidx rfl rfl rfl rfl (by omega)) (kk := ?_) | refine z_g (kk := ?_) | refine z_h (kk := ?_)))
        rw [hx]
        skip
        try rw [hx]
        skip
        refine W.condT rfl (by first | rfl | assumption | (simp; done) | (simp; omega)) ?_
        (repeat (first | with_reducible refine W.seq ?_ | with_reducible refine W.region ?_ | refine z_p (kk := ?_) | refine z_a (kk := ?_) | with_reducible refine W.skip ?_ | with_reducible refine W.block ?_ | refine z_ev (EV.sidx rfl rfl rfl rfl (by omega)) (kk := ?_)))
        rw [hx]
        refine z_ev (EV.sub8 (v := 48) rfl rfl rfl (by omega) (by omega)) (kk := ?_)
        refine Ops.cv rfl rfl rfl rfl rfl rfl ?_
        rw [wrapN (by omega)]
        (repeat (first | with_reducible refine Ops.nil ?_ | with_reducible refine W.region ?_ | refine z_p (kk := ?_) | refine z_a (kk := ?_) | with_reducible refine W.endb ?_))
        rw [show 10 * (c : Int) + ((x - 48 : Nat) : Int) = ((10 * c + (x - 48) : Nat) : Int) by omega]
        exact W.endl ⟨_, _, ⟨⟨q + 1, 10 * c + (x - 48), rfl, rfl, rfl, hdig, by omega, by omega, by omega⟩, by omega⟩, (by repeat (first | exact trivial | refine And.intro rfl ?_))⟩)
    · rw [dig_stop hgo] at hdig
      by_cases g1 : q < s.length
      rotate_left
      · have e1 : decide ((q : Int) < (s.length : Int)) = false := decide_eq_false (by omega)
        (repeat (first | with_reducible refine W.seq ?_ | with_reducible refine Ops.nil ?_ | with_reducible refine W.region ?_ | refine z_p (kk := ?_) | refine z_n (kk := ?_) | refine z_u (kk := ?_) | refine z_ev (EV.slen rfl rfl rfl) (kk := ?_) | refine z_g (kk := ?_)))
        refine W.condF rfl (by first | rfl | assumption | (simp; done) | (simp; omega)) ?_
        (repeat (first | refine W.exit rfl ?_))
        exact W.endl ⟨_, ⟨q, c, rfl, rfl, hdig, hjq, hqs, hc⟩, (by repeat (first | exact trivial | refine And.intro rfl ?_))⟩
      have e1 : decide ((q : Int) < (s.length : Int)) = true := decide_eq_true (by omega)
      generalize hx : (s.getD q 0).toNat = x at *
      by_cases g2 : 48 ≤ x
      rotate_left
      · have e2 : decide ((x : Int) ≥ 48) = false := decide_eq_false (by omega)
        (repeat (first | with_reducible refine W.seq ?_ | with_reducible refine Ops.nil ?_ | with_reducible refine W.region ?_ | refine z_p (kk := ?_) | refine z_y (kk := ?_) | refine z_n (kk := ?_) | refine z_u (kk := ?_) | refine z_ev (EV.slen rfl rfl rfl) (kk := ?_) | refine z_ev (EV.sidx rfl rfl rfl rfl (by omega)) (kk := ?_) | refine z_g (kk := ?_) | refine z_h (kk := ?_)))
        rw [hx]
        skip
        refine W.condF rfl (by first | rfl | assumption | (simp; done) | (simp; omega)) ?_
        (repeat (first | refine W.exit rfl ?_))
        exact W.endl ⟨_, ⟨q, c, rfl, rfl, hdig, hjq, hqs, hc⟩, (by repeat (first | exact trivial | refine And.intro rfl ?_))⟩
      have e2 : decide ((x : Int) ≥ 48) = true := decide_eq_true (by omega)
      by_cases g3 : x ≤ 57
      rotate_left
      · have e3 : decide ((x : Int) ≤ 57) = false := decide_eq_false (by omega)
        (repeat (first | with_reducible refine W.seq ?_ | with_reducible refine Ops.nil ?_ | with_reducible refine W.region ?_ | refine z_p (kk := ?_) | refine z_y (kk := ?_) | refine z_n (kk := ?_) | refine z_u (kk := ?_) | refine z_ev (EV.slen rfl rfl rfl) (kk := ?_) | refine z_ev (EV.sidx rfl rfl rfl rfl (by omega)) (kk := ?_) | refine z_g (kk := ?_) | refine z_h (kk := ?_)))
        rw [hx]
        skip
        try rw [hx]
        skip
        refine W.condF rfl (by first | rfl | assumption | (simp; done) | (simp; omega)) ?_
        (repeat (first | refine W.exit rfl ?_))
        exact W.endl ⟨_, ⟨q, c, rfl, rfl, hdig, hjq, hqs, hc⟩, (by repeat (first | exact trivial | refine And.intro rfl ?_))⟩
      have e3 : decide ((x : Int) ≤ 57) = true := decide_eq_true (by omega)
      by_cases g4 : c ≤ 1000
      rotate_left
      · have e4 : decide ((c : Int) ≤ 1000) = false := decide_eq_false (by omega)
        (repeat (first | with_reducible refine W.seq ?_ | with_reducible refine Ops.nil ?_ | with_reducible refine W.region ?_ | refine z_p (kk := ?_) | refine z_y (kk := ?_) | refine z_n (kk := ?_) | refine z_u (kk := ?_) | refine z_ev (EV.slen rfl rfl rfl) (kk := ?_) | refine z_ev (EV.sidx rfl rfl rfl rfl (by omega)) (kk := ?_) | refine z_g (kk := ?_) | refine z_h (kk := ?_)))
        rw [hx]
        skip
        try rw [hx]
        skip
        refine W.condF rfl (by first | rfl | assumption | (simp; done) | (simp; omega)) ?_
        (repeat (first | refine W.exit rfl ?_))
        exact W.endl ⟨_, ⟨q, c, rfl, rfl, hdig, hjq, hqs, hc⟩, (by repeat (first | exact trivial | refine And.intro rfl ?_))⟩
      have e4 : decide ((c : Int) ≤ 1000) = true := decide_eq_true (by omega)
      have e5 : decide ((c : Int) > 0) = false := decide_eq_false (by omega)
      (repeat (first | with_reducible refine W.seq ?_ | with_reducible refine Ops.nil ?_ | with_reducible refine W.region ?_ | refine z_p (kk := ?_) | refine z_y (kk := ?_) | refine z_ev (EV.slen rfl rfl rfl) (kk := ?_) | refine z_ev (EV.sidx rfl rfl rfl rfl (by omega)) (kk := ?_) | refine z_h (kk := ?_)))
      rw [hx]
      skip
      try rw [hx]
      skip
      try rw [hx]
      skip
      refine W.condF rfl (by first | rfl | assumption | (simp; done) | (simp; omega)) ?_
      (repeat (first | refine W.exit rfl ?_))
      exact W.endl ⟨_, ⟨q, c, rfl, rfl, hdig, hjq, hqs, hc⟩, (by repeat (first | exact trivial | refine And.intro rfl ?_))⟩
  rintro ρ w2' ⟨q, c, rfl, rfl, hdig, hjq, hqs, hc⟩
  have hs1 := hb1.size
  have hrdN : rdN (s.drop (j + 2)) = if 1 ≤ c ∧ c ≤ 1000 then some (c, s.drop q) else none := by rw [rdN_dig, hdig]
  have hP2 := pr_kp hP (kpF hb2) (fun _ _ e => e)
  have hA2 := hA.kp (kpF hb2) (fun _ e => e.elim)
  have hown : ∀ i, (Value.slice Ao l.length co).ownBlock = some i → i < w1.heap.size := fun i h => (hP.2.own.lt i h).2
  have hM2' : OM (fun j => j < w.heap.size ∨ (Value.slice Ao l.length co).ownBlock = some j) w2' ve e := hM2.more (fun j h => .inl (by
    show j < w1.heap.size
    rcases h with h | h
    · omega
    · exact hown j h))
  have hR2 : R2 (fun i => i < w.heap.size) w2' (.slice Ao l.length co) l := pr_R2 hP2 (by omega) (fun i hi => by have := pr_ge hP2 i hi; omega)
  have hb22 : Below w2'.heap.size w2' w2' := Below.refl _ _
  refine W.seq ?_
  refine W.cut (fun ρ w' => ρ = [(0, S s), (1, .int .i64 (q : Int)), (6, .slice Ao l.length co), (7, ve), (9, .int .i64 (c : Int))] ∧ Below w2'.heap.size w2' w' ∧ 1 ≤ c ∧ c ≤ 1000 ∧ okL (lastE acc) e = true) ?_ ?_
  · by_cases hcr : 1 ≤ c ∧ c ≤ 1000
    rotate_left
    · rw [if_neg hcr] at hrdN
      have hno := hnone (fun r t h => by
        obtain ⟨t1, e, t2, t3, c, t4, q1, q2, q3, q4, _⟩ := rdP_inv h
        rw [hpre1] at q1
        simp only [Option.some.injEq] at q1
        subst q1
        rw [hE] at q2
        simp only [Option.some.injEq, Prod.mk.injEq] at q2
        obtain ⟨rfl, rfl⟩ := q2
        rw [hpre2] at q3
        simp only [Option.some.injEq] at q3
        subst q3
        rw [hrdN] at q4; simp at q4)
      by_cases hc1 : c < 1
      all_goals (
        (repeat (first | with_reducible refine W.seq ?_ | with_reducible refine Ops.nil ?_ | with_reducible refine W.region ?_ | refine z_p (kk := ?_) | refine z_y (kk := ?_) | refine z_n (kk := ?_) | refine z_u (kk := ?_) | refine z_g (kk := ?_) | refine z_h (kk := ?_)))
        refine W.condT rfl (by first | (simp; done) | (simp; omega)) ?_
        (repeat (first | with_reducible refine W.seq ?_ | with_reducible refine Ops.nil ?_ | with_reducible refine W.region ?_ | refine z_p (kk := ?_)))
        exact W.fret rfl ⟨.inr ⟨_, rfl, hno⟩, hb02⟩)
    · obtain ⟨hc1, hc2⟩ := hcr
      rw [if_pos ⟨hc1, hc2⟩] at hrdN
      have f1 : decide ((c : Int) < 1) = false := decide_eq_false (by omega)
      have f2 : decide ((c : Int) > 1000) = false := decide_eq_false (by omega)
      by_cases hz : l.length = 0
      · have hacc : acc = .nil := lenO_zero.1 (by omega)
        have hok : okL (lastE acc) e = true := by rw [hacc]; rfl
        (repeat (first | with_reducible refine W.seq ?_ | with_reducible refine Ops.nil ?_ | with_reducible refine W.region ?_ | refine z_p (kk := ?_) | refine z_y (kk := ?_) | refine z_n (kk := ?_) | refine z_l (kk := ?_) | refine z_g (kk := ?_) | refine z_h (kk := ?_)))
        refine W.condF rfl (by first | rfl | assumption | (simp; done) | (simp; omega)) ?_
        (repeat (first | with_reducible refine W.skip ?_))
        exact W.endl ⟨_, ⟨rfl, hb22, hc1, hc2, hok⟩, (by repeat (first | exact trivial | refine And.intro rfl ?_))⟩
      · have hacc : acc ≠ .nil := fun h => hz (by rw [hlen, h]; rfl)
        have hla := lastE_at hacc
        obtain ⟨a2, aM⟩ := hA2.at_ (i := lenO acc - 1) (by omega)
        have f3 : decide ((l.length : Int) > 0) = true := decide_eq_true (by omega)
        (repeat (first | with_reducible refine W.seq ?_ | with_reducible refine W.region ?_ | refine z_p (kk := ?_) | refine z_a (kk := ?_) | refine z_y (kk := ?_) | refine z_l (kk := ?_) | refine z_h (kk := ?_)))
        rw [show ((l.length : Nat) : Int) - 1 = ((lenO acc - 1 : Nat) : Int) by omega]
        (repeat (first | refine z_p (kk := ?_) | refine z_y (kk := ?_) | refine z_R0 (kk := fun _ _ => ?_)))
        refine Ops.call rfl rfl rfl rfl rfl (refCompare_c _ (Nat.le_refl _) aM hM2') (fun r w3 hR => ?_)
        obtain ⟨rfl, hb23⟩ := hR
        have hsw := cmp_swap (nthE acc (lenO acc - 1)) e
        by_cases hcm : cmpO (nthE acc (lenO acc - 1)) e ≤ 0
        · have hbad : okL (lastE acc) e = false := by rw [hla]; exact decide_eq_false (by omega)
          have hno := hnone (fun r t h => by
            obtain ⟨t1, e', t2, t3, c, t4, q1, q2, q3, q4, q5, _⟩ := rdP_inv h
            rw [hpre1] at q1
            simp only [Option.some.injEq] at q1
            subst q1
            rw [hE] at q2
            simp only [Option.some.injEq, Prod.mk.injEq] at q2
            obtain ⟨rfl, rfl⟩ := q2
            rw [hbad] at q5; simp at q5)
          (repeat (first | with_reducible refine Ops.nil ?_ | refine z_p (kk := ?_) | refine z_y (kk := ?_)))
          refine W.condT rfl (by first | rfl | assumption | (simp; done) | (simp; omega)) ?_
          (repeat (first | with_reducible refine W.seq ?_ | with_reducible refine Ops.nil ?_ | with_reducible refine W.region ?_ | refine z_p (kk := ?_)))
          exact W.fret rfl ⟨.inr ⟨_, rfl, hno⟩, Below.via hb02 hb23⟩
        · have hok : okL (lastE acc) e = true := by rw [hla]; exact decide_eq_true (by omega)
          (repeat (first | with_reducible refine Ops.nil ?_ | refine z_p (kk := ?_) | refine z_y (kk := ?_)))
          refine W.condF rfl (by first | rfl | assumption | (simp; done) | (simp; omega)) ?_
          (repeat (first | with_reducible refine W.skip ?_))
          exact W.endl ⟨_, ⟨rfl, hb23, hc1, hc2, hok⟩, (by repeat (first | exact trivial | refine And.intro rfl ?_))⟩
  rintro ρ w3 ⟨rfl, hb23, hc1, hc2, hok⟩
  rw [if_pos ⟨hc1, hc2⟩] at hrdN
  have hnext := rdP_eq (m := m') (s := s.drop k) (last := lastE acc) hpre1 hE hpre2 hrdN hok
  have hb03 := Below.via hb02 hb23
  have hP3 := pr_kp hP2 (kpF hb23) (fun _ _ e => e)
  have hA3 := hA2.kp (kpF hb23) (fun _ e => e.elim)
  have hM3 := hM2'.below hb23
  have hee := hM3.one
  have hsz4 : szO (snocO acc e c) = szO acc + (1 + szO e) := by unfold snocO; rw [szO_app]; simp only [szO]; omega
  (repeat (first | with_reducible refine W.seq ?_ | with_reducible refine W.region ?_ | refine z_p (kk := ?_)))
  refine Ops.bld2 rfl rfl rfl rfl rfl rfl rfl hee rfl ?_
  refine Ops.pushP (fa := pA) (fb := pB) (z := (ve, c)) rfl rfl rfl rfl rfl rfl rfl rfl rfl rfl rfl (fun _ => rfl) hee rfl hP3.2 (by omega) (fun lv' p w9 hO9 k9 hn9 => ?_)
  have hP9 := pr_put hP3 (tr_size hP3.1) hO9 k9.size
  have hmo : ∀ i, ((i < w.heap.size ∨ (Value.slice Ao l.length co).ownBlock = some i) ∨ lv'.ownBlock = some i) → (i < w.heap.size ∨ (Value.slice Ao l.length co).ownBlock = some i) ∨ w3.heap.size ≤ i := fun i h => by
    rcases h with h | h
    · exact .inl h
    · rcases hn9 i h with q | q
      · exact .inl (.inr q)
      · exact .inr q
  have hA9 := ((hA3.more hmo).kp k9 (fun i e => .inl (.inr e))).more (S' := fun i => i < w.heap.size ∨ lv'.ownBlock = some i) (fun i h => .inl (by rcases h with h | h; exact .inl (.inl h); exact .inr h))
  have hM9 := ((hM3.more hmo).kp k9 (fun i e => .inl (.inr e))).more (S' := fun i => i < w.heap.size ∨ lv'.ownBlock = some i) (fun i h => .inl (by rcases h with h | h; exact .inl (.inl h); exact .inr h))
  have hAs := OA_snoc (c := c) hM9 hA9
  have hb09 : Below w.heap.size w w9 := Below.put hb03 k9 (fun j hj => pr_ge hP3 j hj)
  have hfin : (q < s.length → (s.getD q 0).toNat ≠ 43) → (∃ o j v, Value.tuple #[lv', .int .i64 (q : Int)] = .tuple #[v, .int .i64 ((j : Nat) : Int)] ∧ rdP n (s.drop i) none = some (o, s.drop j) ∧ i < j ∧ j ≤ s.length ∧ szO o + i ≤ j ∧ OM (fun k => k < w.heap.size) w9 v o) := fun h => by
    rw [plus_no h] at hnext
    exact ⟨snocO acc e c, q, lv', rfl, by rw [hres, hnext]; rfl, by omega, hqs, by omega, ⟨_, pr_R2 hP9 (by simp; omega) (fun i hi => by have := pr_ge hP9 i hi; omega), hAs.more (fun i h => .inl (.inl h))⟩⟩
  by_cases hq : q = s.length
  · subst hq
    (repeat (first | with_reducible refine W.seq ?_ | with_reducible refine Ops.nil ?_ | with_reducible refine W.region ?_ | refine z_p (kk := ?_) | refine z_n (kk := ?_) | refine z_ev (EV.slen rfl rfl rfl) (kk := ?_) | refine z_g (kk := ?_)))
    refine W.condT rfl (by first | rfl | (simp; done)) ?_
    (repeat (first | with_reducible refine W.seq ?_ | with_reducible refine Ops.nil ?_ | with_reducible refine W.region ?_ | refine z_p (kk := ?_)))
    exact W.fret rfl ⟨.inl (hfin (fun h => by omega)), hb09⟩
  · have f4 : (((q : Nat) : Int) == ((s.length : Nat) : Int)) = false := by rw [beq_eq_false_iff_ne]; omega
    by_cases h43 : (s.getD q 0).toNat = 43
    · rw [plus_at (by omega) h43] at hnext
      have f5 : ((((s.getD q 0).toNat : Nat) : Int) != 43) = false := by rw [h43]; rfl
      (repeat (first | with_reducible refine W.seq ?_ | with_reducible refine Ops.nil ?_ | with_reducible refine W.region ?_ | refine z_p (kk := ?_) | refine z_y (kk := ?_) | refine z_ev (EV.slen rfl rfl rfl) (kk := ?_) | refine z_ev (EV.sidx rfl rfl rfl rfl (by omega)) (kk := ?_) | refine z_h (kk := ?_)))
      refine W.condF rfl (by first | rfl | assumption | (simp; done) | (simp; omega)) ?_
      (repeat (first | with_reducible refine Ops.nil ?_ | with_reducible refine W.region ?_ | refine z_p (kk := ?_) | refine z_a (kk := ?_) | with_reducible refine W.skip ?_ | with_reducible refine W.endb ?_))
      refine W.endl ⟨_, _, ⟨⟨q + 1, m', snocO acc e c, l ++ [(ve, c)], lv', rfl, rfl, by omega, by omega, hb09, hP9, hAs, by omega, by omega, by omega, ?_⟩, by omega⟩, (by repeat (first | exact trivial | refine And.intro rfl ?_))⟩
      replace hnext : rdP (m' + 1) (s.drop k) (lastE acc) = (rdP m' (s.drop (q + 1)) (some e)).map (fun q => (.cons e c q.1, q.2)) := hnext
      rw [hres, hnext, lastE_snoc]
      cases rdP m' (s.drop (q + 1)) (some e) with
      | none => rfl
      | some u => simp only [Option.map_some, appO_snoc]
    · have f5 : ((((s.getD q 0).toNat : Nat) : Int) != 43) = true := by rw [bne_iff_ne]; omega
      (repeat (first | with_reducible refine W.seq ?_ | with_reducible refine Ops.nil ?_ | with_reducible refine W.region ?_ | refine z_p (kk := ?_) | refine z_y (kk := ?_) | refine z_ev (EV.slen rfl rfl rfl) (kk := ?_) | refine z_ev (EV.sidx rfl rfl rfl rfl (by omega)) (kk := ?_) | refine z_h (kk := ?_)))
      refine W.condT rfl (by first | rfl | assumption | (simp; done) | (simp; omega)) ?_
      (repeat (first | with_reducible refine W.seq ?_ | with_reducible refine Ops.nil ?_ | with_reducible refine W.region ?_ | refine z_p (kk := ?_)))
      exact W.fret rfl ⟨.inl (hfin (fun h => h43)), hb09⟩
end Go.Proofs.YtcmjlmnfdncajaaGreatDoor
namespace Go.Proofs.YtcmjlmnfdncajaaGreatDoor.VW
open Go Go.RowKit
section
variable {P : Program} [hT : Tab P] {n : Nat} {ρ : E} {w : World}
omit hT in
theorem EV.max3 {o : Oper} {x y z : Operand} {ts : Array TypeId} {a b c : Int} (ho : o.op = .call { callee := .builtin .max, args := #[x, y, z], argTypes := ts }) (hx : ev ρ x = some (.int .i64 a)) (hy : ev ρ y = some (.int .i64 b)) (hz : ev ρ z = some (.int .i64 c)) : EV P n ρ w o (.int .i64 (Max.max (Max.max a b) c)) := by
  intro f hr
  have e : ∀ a b : Int, (if b > a then b else a) = Max.max a b := fun a b => by simp only [Int.max_def]; split <;> split <;> omega
  have e1 := e a b
  have e2 := e (Max.max a b) c
  simp [execOp, ho, resolve, hr.ev hx, hr.ev hy, hr.ev hz, invoke, builtin, Builtin.max_, Builtin.max2, ← e]
end
end Go.Proofs.YtcmjlmnfdncajaaGreatDoor.VW
namespace Go.Proofs.YtcmjlmnfdncajaaGreatDoor
open Go Go.RowKit Go.Proofs.YtcmjlmnfdncajaaGreatDoor.VW Go.Proofs.YtcmjlmnfdncajaaGreatDoor.TW
attribute [local irreducible] W Ops OrdA VW.Ord OrdX Wi OpsI OrdF
def shS (s : List UInt8) : List UInt8 := s.take (min s.length 1000)
theorem shS_len (s : List UInt8) : (shS s).length ≤ 1000 := by unfold shS; rw [List.length_take]; omega
theorem short_c {w : World} {s : List UInt8} : Calls Tryz.prog 23 #[S s] w (Ret fun r w' => r = S (shS s) ∧ w' = w) := by
  refine calls_W (vs := [_]) Tryz.func23 rfl (by kernel_rfl) rfl ?_
  have h1 : min s.length 1000 ≤ s.length := Nat.min_le_left _ _
  (repeat (first | with_reducible refine W.seq ?_ | with_reducible refine Ops.nil ?_ | with_reducible refine W.region ?_ | refine z_p (kk := ?_) | refine z_m (kk := ?_) | refine z_ev (EV.slen rfl rfl rfl) (kk := ?_)))
  rw [show min (s.length : Int) 1000 = ((min s.length 1000 : Nat) : Int) by omega]
  (repeat (first | with_reducible refine Ops.nil ?_ | refine z_p (kk := ?_) | refine z_ev (EV.sto rfl rfl rfl rfl (by omega)) (kk := ?_)))
  exact W.fret rfl ⟨rfl, rfl⟩
theorem rRead_c {w : World} {s : List UInt8} (hs : s.length ≤ 1000) : Calls Tryz.prog 26 #[S s] w (Ret fun r w' => ((∃ o v, rdA s = some o ∧ r = .tuple #[v, .bool true] ∧ OM (fun k => k < w.heap.size) w' v o) ∨ (∃ v, rdA s = none ∧ r = .tuple #[v, .bool false])) ∧ Below w.heap.size w w') := by
  have hdef : rdA s = match rdE (fun t => rdP (s.length + 1) t none) s with
    | some (o, []) => if szO o ≤ 60 then some o else none
    | _ => none := by
    generalize hq : rdE (fun t => rdP (s.length + 1) t none) s = q
    have h : rdO s = q := by
      rw [← hq]
      unfold rdO rdE
      split <;> rfl
    unfold rdA
    rw [h]
    cases q with
    | none => rfl
    | some q => obtain ⟨o, t⟩ := q; cases t <;> rfl
  refine calls_W (vs := [_]) Tryz.func26 rfl (by kernel_rfl) rfl ?_
  (repeat (first | with_reducible refine W.seq ?_ | with_reducible refine Ops.nil ?_ | with_reducible refine W.region ?_ | refine z_p (kk := ?_)))
  refine Ops.call rfl rfl rfl rfl rfl (rread_c (s.length + 1) (i := 0) hs (Nat.zero_le _) (by simp)) (fun r w1 hR => ?_)
  obtain ⟨hor, hb1⟩ := hR
  rcases hor with ⟨o, j, v, rfl, hE, h0j, hjs, hz, hM⟩ | ⟨v, rfl, hE⟩
  · rw [List.drop_zero] at hE
    rw [hE] at hdef
    by_cases hj : j = s.length
    · subst hj
      rw [List.drop_eq_nil_of_le (Nat.le_refl _)] at hdef
      simp only at hdef
      have f1 : (((s.length : Nat) : Int) != ((s.length : Nat) : Int)) = false := by simp
      (repeat (first | with_reducible refine W.seq ?_ | with_reducible refine Ops.nil ?_ | with_reducible refine W.region ?_ | refine z_p (kk := ?_) | refine z_y (kk := ?_) | refine z_ev (EV.slen rfl rfl rfl) (kk := ?_) | refine z_h (kk := ?_)))
      refine Ops.callS rfl rfl rfl rfl rfl (rSize_c _ (Nat.le_refl _) (by omega) hM) ?_
      by_cases h60 : szO o ≤ 60
      · rw [if_pos h60] at hdef
        (repeat (first | with_reducible refine Ops.nil ?_ | refine z_p (kk := ?_) | refine z_y (kk := ?_)))
        refine W.condF rfl (by first | rfl | assumption | (simp; done) | (simp; omega)) ?_
        (repeat (first | with_reducible refine W.seq ?_ | with_reducible refine Ops.nil ?_ | with_reducible refine W.region ?_ | refine z_p (kk := ?_) | with_reducible refine W.skip ?_))
        exact W.fret rfl ⟨.inl ⟨o, v, hdef, rfl, hM⟩, hb1⟩
      · rw [if_neg h60] at hdef
        (repeat (first | with_reducible refine Ops.nil ?_ | refine z_p (kk := ?_) | refine z_y (kk := ?_)))
        refine W.condT rfl (by first | rfl | assumption | (simp; done) | (simp; omega)) ?_
        (repeat (first | with_reducible refine W.seq ?_ | with_reducible refine Ops.nil ?_ | with_reducible refine W.region ?_ | refine z_p (kk := ?_)))
        exact W.fret rfl ⟨.inr ⟨_, hdef, rfl⟩, hb1⟩
    · have hne : s.drop j ≠ [] := fun e => by have := congrArg List.length e; simp at this; omega
      have hno : rdA s = none := by
        rw [hdef]
        cases hx : s.drop j with
        | nil => exact absurd hx hne
        | cons a t => rfl
      have f1 : (((j : Nat) : Int) != ((s.length : Nat) : Int)) = true := by rw [bne_iff_ne]; omega
      (repeat (first | with_reducible refine W.seq ?_ | with_reducible refine Ops.nil ?_ | with_reducible refine W.region ?_ | refine z_p (kk := ?_) | refine z_n (kk := ?_) | refine z_ev (EV.slen rfl rfl rfl) (kk := ?_) | refine z_g (kk := ?_)))
      refine W.condT rfl (by first | rfl | assumption | (simp; done) | (simp; omega)) ?_
      (repeat (first | with_reducible refine W.seq ?_ | with_reducible refine Ops.nil ?_ | with_reducible refine W.region ?_ | refine z_p (kk := ?_)))
      exact W.fret rfl ⟨.inr ⟨_, hno, rfl⟩, hb1⟩
  · rw [List.drop_zero] at hE
    rw [hE] at hdef
    have f1 : ((-1 : Int) != ((s.length : Nat) : Int)) = true := by rw [bne_iff_ne]; omega
    (repeat (first | with_reducible refine W.seq ?_ | with_reducible refine Ops.nil ?_ | with_reducible refine W.region ?_ | refine z_p (kk := ?_) | refine z_n (kk := ?_) | refine z_ev (EV.slen rfl rfl rfl) (kk := ?_)))
    refine W.condT rfl (by first | rfl | assumption | (simp; done) | (simp; omega)) ?_
    (repeat (first | with_reducible refine W.seq ?_ | with_reducible refine Ops.nil ?_ | with_reducible refine W.region ?_ | refine z_p (kk := ?_)))
    exact W.fret rfl ⟨.inr ⟨_, hdef, rfl⟩, hb1⟩
theorem rKind_c {S : Nat → Prop} {w : World} {v : Value} {o : Od} (hM : OM S w v o) : Calls Tryz.prog 27 #[v] w (Ret fun r w' => r = .int .i64 (kindO o : Nat) ∧ w' = w) := by
  obtain ⟨l, hR, hA⟩ := hM
  have hl := hA.len
  have hbd := hR.bd
  obtain ⟨A, c, rfl⟩ := hR.sh
  have hk := kind_len o
  have hbb : Below w.heap.size w w := Below.refl _ _
  refine calls_W (vs := [_]) Tryz.func27 rfl (by kernel_rfl) rfl ?_
  (repeat (first | with_reducible refine W.seq ?_ | with_reducible refine Ops.nil ?_ | with_reducible refine W.region ?_ | refine z_p (kk := ?_) | refine z_l (kk := ?_)))
  by_cases h0 : l.length = 0
  · refine W.condT rfl (by first | rfl | assumption | (simp only [bnf] <;> omega) | (simp only [*, bnf]; done) | fail) ?_
    (repeat (first | with_reducible refine W.seq ?_ | with_reducible refine Ops.nil ?_ | with_reducible refine W.region ?_ | refine z_p (kk := ?_)))
    refine W.fret rfl ⟨?_, rfl⟩
    rw [hk, if_pos (by omega)]; rfl
  · rw [if_neg (by omega)] at hk
    refine W.condF rfl (by first | rfl | assumption | (simp only [bnf] <;> omega) | (simp only [*, bnf]; done) | fail) ?_
    (repeat (first | with_reducible refine W.seq ?_ | with_reducible refine W.region ?_ | refine z_p (kk := ?_) | refine z_a (kk := ?_) | with_reducible refine W.skip ?_ | refine z_l (kk := ?_)))
    obtain ⟨a2, aM⟩ := hA.at_ (i := lenO o - 1) (by omega)
    rw [show ((l.length : Nat) : Int) - 1 = ((lenO o - 1 : Nat) : Int) by omega]
    (repeat (first | refine z_R0 (kk := fun _ _ => ?_)))
    obtain ⟨le, hRe, hAe⟩ := aM
    have hle := hAe.len
    obtain ⟨Ae, ce, hve⟩ := hRe.sh
    rw [hve]
    (repeat (first | with_reducible refine Ops.nil ?_ | refine z_p (kk := ?_) | refine z_l (kk := ?_)))
    by_cases h1 : le.length = 0
    · refine W.condT rfl (by first | rfl | assumption | (simp only [bnf] <;> omega) | (simp only [*, bnf]; done) | fail) ?_
      (repeat (first | with_reducible refine W.seq ?_ | with_reducible refine Ops.nil ?_ | with_reducible refine W.region ?_ | refine z_p (kk := ?_)))
      refine W.fret rfl ⟨?_, rfl⟩
      rw [hk, if_pos (by omega)]; rfl
    · refine W.condF rfl (by first | rfl | assumption | (simp only [bnf] <;> omega) | (simp only [*, bnf]; done) | fail) ?_
      (repeat (first | with_reducible refine W.seq ?_ | with_reducible refine Ops.nil ?_ | with_reducible refine W.region ?_ | refine z_p (kk := ?_) | with_reducible refine W.skip ?_))
      refine W.fret rfl ⟨?_, rfl⟩
      rw [hk, if_neg (by omega)]; rfl
set_option maxHeartbeats 4000000 in
theorem rmost_c : ∀ (n : Nat) {S' : Nat → Prop} {w : World} {v : Value} {o : Od}, szO o ≤ n → n ≤ 100000000 → OM S' w v o →
    Calls Tryz.prog 79 #[v] w (Ret fun r w' => r = .int .i64 (mostO o : Nat) ∧ Below w.heap.size w w') := by
  intro n
  induction n using Nat.strongRecOn with
  | _ n ih =>
  intro S' w v o hn hbig hM
  obtain ⟨l, hR, hA⟩ := hM
  have hl := hA.len
  have hls := len_le_sz o
  obtain ⟨A, c, rfl⟩ := hR.sh
  refine calls_W (vs := [_]) Tryz.func79 rfl (by kernel_rfl) rfl ?_
  (repeat (first | with_reducible refine W.seq ?_ | with_reducible refine Ops.nil ?_ | with_reducible refine W.region ?_ | refine z_p (kk := ?_) | with_reducible refine W.block ?_))
  refine W.loop (fun m ρ w' => ∃ (i acc : Nat), m = l.length - i ∧ i ≤ l.length ∧ Below w.heap.size w w' ∧ mostO o = max acc (mostO (dropO o i)) ∧ ρ = [(0, .slice A l.length c), (3, .int .i64 acc), (4, .int .i64 i)])
    ⟨_, _, ⟨0, 0, rfl, Nat.zero_le _, Below.refl _ _, by rw [dropO_zero]; omega, rfl⟩, (by repeat (first | exact trivial | refine And.intro rfl ?_))⟩ ?_
  rintro m ρ w1 ⟨i, acc, rfl, hi, hb1, hacc, rfl⟩
  (repeat (first | with_reducible refine W.seq ?_ | with_reducible refine Ops.nil ?_ | with_reducible refine W.region ?_ | refine z_p (kk := ?_) | refine z_l (kk := ?_)))
  (first | refine W.condD rfl (fun hc => ?_) (fun hc => ?_) | refine W.condE rfl (fun hc => ?_) (fun hc => ?_) | refine W.condN rfl (fun hc => ?_) (fun hc => ?_) | refine W.cond rfl (fun hc => ?_) (fun hc => ?_))
  · have hil : i < l.length := by omega
    obtain ⟨a2, aM⟩ := hA.at_ (i := i) (by omega)
    have hsz := nthE_sz (o := o) (i := i) (by omega)
    rw [dropO_cons (by omega)] at hacc
    simp only [mostO] at hacc
    have hR1 := hR.below hb1
    have hb11 : Below w1.heap.size w1 w1 := Below.refl _ _
    (repeat (first | with_reducible refine W.seq ?_ | with_reducible refine W.skip ?_ | with_reducible refine W.block ?_))
    refine W.ordA 99 [(0, 1), (1, 1), (2, 1), (3, 1), (4, 1), (5, 2), (6, 1), (7, 1), (8, 1), (9, 1), (10, 2), (11, 2), (12, 1), (13, 1)] rfl (by kernel_rfl) rfl (by kernel_rfl) (fun _ _ _ h => h) ?_
    (repeat (first | refine x_p (kk := ?_) | refine x_R0 (kk := fun _ _ => ?_) | refine x_R1 (kk := fun _ _ => ?_)))
    refine OrdA.call rfl rfl rfl rfl rfl rfl rfl (fun w' hw' => Calls.via hw' (ih _ (show szO (nthE o i) < n by omega) (Nat.le_refl _) (by omega) (aM.below (Below.via hb1 hw')))) ?_
    skip
    rw [a2]
    refine x_ev rfl (fun _ => EV.max3 rfl rfl rfl rfl) (kk := ?_)
    rw [show max (max (acc : Int) ((nthC o i : Nat) : Int)) ((mostO (nthE o i) : Nat) : Int) = ((max (max acc (nthC o i)) (mostO (nthE o i)) : Nat) : Int) by omega]
    (repeat (first | refine x_p (kk := ?_)))
    refine OrdA.nil (fun w4 hb4 => ?_)
    (repeat (first | with_reducible refine Ops.nil ?_ | with_reducible refine W.region ?_ | refine z_p (kk := ?_) | refine z_a (kk := ?_) | with_reducible refine W.endb ?_))
    exact W.endl ⟨_, _, ⟨⟨i + 1, max (max acc (nthC o i)) (mostO (nthE o i)), rfl, by omega, Below.via hb1 hb4, by omega, rfl⟩, by omega⟩, (by repeat (first | exact trivial | refine And.intro rfl ?_))⟩
  · have hil : i = l.length := by omega
    subst hil
    rw [hl, dropO_len] at hacc
    simp only [mostO] at hacc
    (repeat (first | with_reducible refine W.seq ?_ | with_reducible refine Ops.nil ?_ | with_reducible refine W.region ?_ | refine z_p (kk := ?_) | refine W.exit rfl ?_))
    refine W.fret rfl ⟨?_, hb1⟩
    rw [hacc, Nat.max_eq_left (Nat.zero_le _)]; rfl
theorem rFull_c {S' : Nat → Prop} {w : World} {v : Value} {o : Od} (hz : szO o ≤ 100000000) (hM : OM S' w v o) : Calls Tryz.prog 30 #[v] w (Ret fun r w' => r = .bool (bigO o) ∧ Below w.heap.size w w') := by
  refine calls_W (vs := [_]) Tryz.func30 rfl (by kernel_rfl) rfl ?_
  (repeat (first | with_reducible refine W.seq ?_ | with_reducible refine Ops.nil ?_ | with_reducible refine W.region ?_ | refine z_p (kk := ?_)))
  refine Ops.callS rfl rfl rfl rfl rfl (rSize_c _ (Nat.le_refl _) hz hM) ?_
  by_cases h : 60 < szO o
  · have hb : bigO o = true := decide_eq_true (.inl h)
    have f1 : decide (((szO o : Nat) : Int) > 60) = true := decide_eq_true (by omega)
    (repeat (first | with_reducible refine Ops.nil ?_ | refine z_p (kk := ?_) | refine z_n (kk := ?_) | refine z_g (kk := ?_)))
    refine W.fret rfl ⟨?_, Below.refl _ _⟩
    rw [hb, ← f1]
    rfl
  · have f1 : decide (((szO o : Nat) : Int) > 60) = false := decide_eq_false (by omega)
    (repeat (first | refine z_p (kk := ?_) | refine z_y (kk := ?_) | refine z_h (kk := ?_)))
    refine Ops.call rfl rfl rfl rfl rfl (rmost_c _ (Nat.le_refl _) hz hM) (fun r w1 hR => ?_)
    obtain ⟨rfl, hb1⟩ := hR
    (repeat (first | with_reducible refine Ops.nil ?_ | refine z_p (kk := ?_) | refine z_y (kk := ?_)))
    refine W.fret rfl ⟨?_, hb1⟩
    unfold bigO
    have : decide (((mostO o : Nat) : Int) > 1000) = decide (60 < szO o ∨ 1000 < mostO o) := decide_eq_decide.2 (by omega)
    rw [← this]
    rfl
end Go.Proofs.YtcmjlmnfdncajaaGreatDoor
namespace Go.Proofs.YtcmjlmnfdncajaaGreatDoor
open Go Go.RowKit Go.Proofs.YtcmjlmnfdncajaaGreatDoor.VW Go.Proofs.YtcmjlmnfdncajaaGreatDoor.TW
attribute [local irreducible] W Ops OrdA VW.Ord OrdX Wi OpsI OrdF
set_option maxHeartbeats 8000000 in
theorem rStep_c : ∀ (n : Nat) {S' : Nat → Prop} {w : World} {va : Value} {a : Od} {k : Nat}, szO a ≤ n → n ≤ 100000 → a ≠ .nil → k ≤ 100000 → mostO a ≤ 10000000 → (∀ i, S' i → i < w.heap.size) → OM S' w va a →
    Calls Tryz.prog 28 #[va, .int .i64 (k : Int)] w (Ret fun r w' => OM S' w' r (stepO a k) ∧ Below w.heap.size w w') := by
  intro n
  induction n using Nat.strongRecOn with
  | _ n ih =>
  intro S' w va a k hn hbig hne hk hmo hS hA
  obtain ⟨la, hRa, hAa⟩ := hA
  have hla := hAa.len
  have hlz := len_le_sz a
  have hl0 : 0 < lenO a := Nat.pos_of_ne_zero (fun h => hne (lenO_zero.1 h))
  obtain ⟨f1, f2⟩ := finE_at hne
  have hfs := finE_sz hne
  have hst := step_init k hne
  obtain ⟨a2, aM⟩ := hAa.at_ (i := lenO a - 1) (by omega)
  have hmn := nth_most (o := a) (i := lenO a - 1) (by omega)
  rw [f1, f2] at hmn
  rw [f1] at aM
  rw [f2] at a2
  have ha1 := aM.one
  have hcap : la.length ≤ la.length := Nat.le_refl _
  obtain ⟨Aa, ca, he, hcc, _⟩ := id hRa
  subst he
  have hil := initO_len a
  refine calls_W (vs := [_, _]) Tryz.func28 rfl (by kernel_rfl) rfl ?_
  (repeat (first | with_reducible refine W.seq ?_ | with_reducible refine Ops.nil ?_ | with_reducible refine W.region ?_ | refine z_p (kk := ?_) | refine z_a (kk := ?_) | refine z_l (kk := ?_)))
  rw [show ((la.length : Nat) : Int) - 1 = ((lenO a - 1 : Nat) : Int) by omega]
  (repeat (first | refine z_R2 (kk := fun _ => ?_)))
  rw [a2]
  generalize hva : (la.getD (lenO a - 1) default).1 = ve at *
  refine Ops.alloc rfl rfl rfl rfl (fun w1 b5 hM1 => ?_)
  refine Ops.stN (vs := [ve, .int .i64 (finC a : Nat)]) (cs := [.slice none 0 0, .int .i64 0]) rfl rfl rfl rfl rfl rfl (by intro v hv; simp at hv; rcases hv with rfl | rfl; exact ha1; rfl) rfl hM1.at_ (fun w2 hu2 => ?_)
  have B2 : Blk w2 b5 #[ve, .int .i64 (finC a : Nat)] 100 := hu2.blk
  have e1 := hM1.r_eq
  have hb02 : Below w.heap.size w w2 := Below.put (Mk.bel hM1) hu2.kp (fun i e => by omega)
  (repeat (first | with_reducible refine W.seq ?_ | with_reducible refine Ops.nil ?_ | with_reducible refine W.region ?_ | refine z_p (kk := ?_) | refine z_a (kk := ?_) | refine z_l (kk := ?_)))
  rw [show ((la.length : Nat) : Int) - 1 = ((lenO a - 1 : Nat) : Int) by omega]
  refine z_ev (EV.slH rfl rfl rfl rfl rfl (by omega) (by omega)) (kk := ?_)
  rw [Int.toNat_natCast]
  have hRt := hRa.take (h := lenO a - 1) (by omega)
  have hOAi := OA_init hAa
  rw [hla] at hOAi
  have hti : (la.take (lenO a - 1)).length = lenO a - 1 := by rw [List.length_take]; omega
  have hti2 := hOAi.len
  refine Ops.appP rfl rfl rfl rfl rfl rfl rfl rfl rfl (PR.nil (N := w.heap.size) hb02.size).2 (hRt.below hb02) (OA_one hOAi) (by simp only [List.length_nil]; omega) (fun v6 w3 hO3 k3 hn3 => ?_)
  have hP3' : PR w.heap.size w3 v6 (la.take (lenO a - 1)) := pr_put (PR.nil (N := w.heap.size) hb02.size) (tr_size hb02.size) hO3 k3.size
  have hb23 : Below w2.heap.size w2 w3 := k3.below (Nat.le_refl _) (fun i _ e => by cases e)
  have hb03 := Below.via hb02 hb23
  have B3 := B2.kp (kpF hb23) (fun e => e)
  have hge6 : ∀ i, v6.ownBlock = some i → w2.heap.size ≤ i := fun i hi => by rcases hn3 i hi with q | q; cases q; exact q
  have hb5 := B2.lt
  clear B2 hu2 hM1
  refine z_p (kk := ?_)
  refine Ops.nil ?_
  refine W.seq ?_
  refine W.cut (fun ρ w4 => ∃ (v : Value) (l : List (Value × Nat)) (o : Od), ρ = [(1, .int .i64 (k : Int)), (5, .pointer (some ⟨b5, 0, none⟩)), (6, v)] ∧ PR w.heap.size w4 v l ∧ OA S' w o l ∧ (∀ i, v.ownBlock = some i → w2.heap.size ≤ i) ∧ Below w.heap.size w w4 ∧ Blk w4 b5 #[ve, .int .i64 (finC a : Nat)] 100 ∧ (∀ t, appO o t = appO (initO a) (cutS (finE a) (finC a) t)) ∧ lenO o ≤ lenO a) ?_ ?_
  · (repeat (first | with_reducible refine W.seq ?_ | with_reducible refine Ops.nil ?_ | with_reducible refine W.region ?_ | refine z_p (kk := ?_) | refine z_f (kk := ?_) | refine z_d (kk := ?_)))
    by_cases hc : 1 < finC a
    · refine W.condT rfl (by first | rfl | assumption | (simp only [bnf] <;> omega) | (simp only [*, bnf]; done) | fail) ?_
      (repeat (first | with_reducible refine W.region ?_ | refine z_p (kk := ?_) | refine z_a (kk := ?_) | refine z_f (kk := ?_) | refine z_d (kk := ?_)))
      rw [show ((finC a : Nat) : Int) - 1 = ((finC a - 1 : Nat) : Int) by omega]
      refine Ops.bld2 rfl rfl rfl rfl rfl rfl rfl ha1 rfl ?_
      refine Ops.pushP (fa := pA) (fb := pB) (z := (ve, finC a - 1)) rfl rfl rfl rfl rfl rfl rfl rfl rfl rfl rfl (fun _ => rfl) ha1 rfl hP3'.2 (by omega) (fun lv' p w4 hO4 k4 hn4 => ?_)
      have hP4 := pr_put hP3' (tr_size hP3'.1) hO4 k4.size
      have hls : lenO (snocO (initO a) (finE a) (finC a - 1)) = lenO (initO a) + 1 := by unfold snocO; rw [lenO_app]; rfl
      (repeat (first | with_reducible refine Ops.nil ?_ | refine z_p (kk := ?_)))
      exact W.endl ⟨_, ⟨lv', _, snocO (initO a) (finE a) (finC a - 1), rfl, hP4, OA_snoc aM hOAi, fun i hi => by rcases hn4 i hi with q | q; exact hge6 i q; have := hb23.size; omega, Below.put hb03 k4 (fun i hi => pr_ge hP3' i hi), B3.kp k4 (fun q => by have := hge6 _ q; omega), fun t => by rw [appO_snoc]; unfold cutS; rw [if_pos hc], by omega⟩, (by repeat (first | exact trivial | refine And.intro rfl ?_))⟩
    · refine W.condF rfl (by first | rfl | assumption | (simp only [bnf] <;> omega) | (simp only [*, bnf]; done) | fail) ?_
      (repeat (first | with_reducible refine W.skip ?_))
      exact W.endl ⟨_, ⟨v6, _, initO a, rfl, hP3', hOAi, hge6, hb03, B3, fun t => by unfold cutS; rw [if_neg hc], by omega⟩, (by repeat (first | exact trivial | refine And.intro rfl ?_))⟩
  · clear hP3' hb23 B3 hge6 hb03 hOAi hti hti2
    rintro ρ w4 ⟨v, l, o, rfl, hP4, hOA, hge, hb04, B4, heq, hlo⟩
    have hlen := hOA.len
    have hP4s := hP4.1
    have hb44 : Below w4.heap.size w4 w4 := Below.refl _ _
    rw [← heq] at hst
    refine W.seq ?_
    refine W.cut (fun ρ w6 => ∃ (v : Value) (l : List (Value × Nat)) (o : Od), ρ = [(6, v)] ∧ PR w.heap.size w6 v l ∧ OA S' w6 o l ∧ o = stepO a k ∧ Below w.heap.size w w6 ∧ lenO o ≤ 1000000) ?_ ?_
    · (repeat (first | with_reducible refine W.seq ?_ | with_reducible refine W.region ?_ | refine z_f (kk := ?_) | refine z_d (kk := ?_)))
      refine Ops.callS rfl rfl rfl rfl rfl (rKind_c (aM.below hb04)) ?_
      (repeat (first | with_reducible refine W.seq ?_ | with_reducible refine Ops.nil ?_ | with_reducible refine W.region ?_ | refine z_p (kk := ?_) | with_reducible refine W.block ?_))
      have hkl := kind_lt (finE a)
      -- the step of the exponent
      have hnn : kindO (finE a) ≠ 0 → finE a ≠ .nil := fun h e => h (kind_zero.2 e)
      have hstep : ∀ k : Nat, k ≤ 100000 → kindO (finE a) ≠ 0 → Calls Tryz.prog 28 #[ve, .int .i64 (k : Int)] w4 (Ret fun r w' => OM (fun i => S' i ∨ v.ownBlock = some i) w' r (stepO (finE a) k) ∧ Below w4.heap.size w4 w') := fun k hk h =>
        ih _ (show szO (finE a) < n by omega) (Nat.le_refl _) (by omega) (hnn h) hk (by omega) (fun i hi => by
          rcases hi with hi | hi
          · have := hS i hi; omega
          · exact (hP4.2.own.lt i hi).2) ((aM.more (S' := fun i => S' i ∨ v.ownBlock = some i) (fun i hi => by
          rcases hi with hi | hi
          · exact .inl hi
          · exact .inr (pr_ge hP4 i hi))).below hb04)
      by_cases h1 : kindO (finE a) = 1
      · have hcs := hstep 0 (by omega) (by omega)
        rw [step_succ 0 k h1] at hcs
        rw [h1] at hst ⊢
        refine W.condT rfl (by first | rfl | assumption | (simp only [bnf] <;> omega) | (simp only [*, bnf]; done) | fail) ?_
        (repeat (first | with_reducible refine W.seq ?_ | with_reducible refine Ops.nil ?_ | with_reducible refine W.region ?_ | refine z_p (kk := ?_)))
        by_cases hk0 : 0 < k
        · have htl : tlS 1 (stepO (finE a) k) k = .cons (stepO (finE a) k) k .nil := by simp [tlS, hk0]
          rw [htl] at hst
          refine W.condT rfl (by first | rfl | assumption | (simp only [bnf] <;> omega) | (simp only [*, bnf]; done) | fail) ?_
          (repeat (first | with_reducible refine W.region ?_ | refine z_p (kk := ?_) | refine z_f (kk := ?_) | refine z_d (kk := ?_)))
          refine Ops.call rfl rfl rfl rfl rfl hcs (fun vs w5 hR => ?_)
          obtain ⟨hM5, hb45⟩ := hR
          have hvs := hM5.one
          have hP5 := pr_kp hP4 (kpF hb45) (fun _ _ e => e)
          have hb05 := Below.via hb04 hb45
          (repeat (first | refine z_p (kk := ?_)))
          refine Ops.bld2 rfl rfl rfl rfl rfl rfl rfl hvs rfl ?_
          refine Ops.pushP (fa := pA) (fb := pB) (z := (vs, k)) rfl rfl rfl rfl rfl rfl rfl rfl rfl rfl rfl (fun _ => rfl) hvs rfl hP5.2 (by omega) (fun lv' p w6 hO6 k6 hn6 => ?_)
          have hP6 := pr_put hP5 (tr_size hP5.1) hO6 k6.size
          have hb06 := Below.put hb05 k6 (fun i hi => pr_ge hP5 i hi)
          have hM6 := (hM5.kp k6 (fun i hi => .inr hi)).more (S' := S') (fun i hi => .inl (.inl hi))
          have hls : lenO (snocO o (stepO (finE a) k) k) = lenO o + 1 := by unfold snocO; rw [lenO_app]; rfl
          (repeat (first | with_reducible refine Ops.nil ?_ | refine z_p (kk := ?_) | with_reducible refine W.endb ?_))
          exact W.endl ⟨_, ⟨lv', _, snocO o (stepO (finE a) k) k, rfl, hP6, OA_snoc hM6 (hOA.kp (kpF hb06) (fun _ e => e.elim)), hst.symm, hb06, by omega⟩, (by repeat (first | exact trivial | refine And.intro rfl ?_))⟩
        · have htl : tlS 1 (stepO (finE a) k) k = .nil := by simp [tlS, hk0]
          rw [htl, appO_nil] at hst
          refine W.condF rfl (by first | rfl | assumption | (simp only [bnf] <;> omega) | (simp only [*, bnf]; done) | fail) ?_
          (repeat (first | with_reducible refine W.skip ?_ | with_reducible refine W.endb ?_))
          exact W.endl ⟨_, ⟨v, l, o, rfl, hP4, hOA.kp (kpF hb04) (fun _ e => e.elim), hst.symm, hb04, by omega⟩, (by repeat (first | exact trivial | refine And.intro rfl ?_))⟩
      · by_cases h2 : kindO (finE a) = 2
        · rw [h2] at hst ⊢
          have hcs := hstep k hk (by omega)
          have htl : tlS 2 (stepO (finE a) k) k = .cons (stepO (finE a) k) 1 .nil := by simp [tlS]
          rw [htl] at hst
          refine W.condF rfl (by first | rfl | assumption | (simp only [bnf] <;> omega) | (simp only [*, bnf]; done) | fail) ?_
          (repeat (first | with_reducible refine W.seq ?_ | with_reducible refine Ops.nil ?_ | with_reducible refine W.region ?_ | refine z_p (kk := ?_)))
          refine W.condT rfl (by first | rfl | assumption | (simp only [bnf] <;> omega) | (simp only [*, bnf]; done) | fail) ?_
          (repeat (first | with_reducible refine W.region ?_ | refine z_p (kk := ?_) | refine z_f (kk := ?_) | refine z_d (kk := ?_)))
          refine Ops.call rfl rfl rfl rfl rfl hcs (fun vs w5 hR => ?_)
          obtain ⟨hM5, hb45⟩ := hR
          have hvs := hM5.one
          have hP5 := pr_kp hP4 (kpF hb45) (fun _ _ e => e)
          have hb05 := Below.via hb04 hb45
          skip
          refine Ops.bld2 rfl rfl rfl rfl rfl rfl rfl hvs rfl ?_
          refine Ops.pushP (fa := pA) (fb := pB) (z := (vs, 1)) rfl rfl rfl rfl rfl rfl rfl rfl rfl rfl rfl (fun _ => rfl) hvs rfl hP5.2 (by omega) (fun lv' p w6 hO6 k6 hn6 => ?_)
          have hP6 := pr_put hP5 (tr_size hP5.1) hO6 k6.size
          have hb06 := Below.put hb05 k6 (fun i hi => pr_ge hP5 i hi)
          have hM6 := (hM5.kp k6 (fun i hi => .inr hi)).more (S' := S') (fun i hi => .inl (.inl hi))
          have hls : lenO (snocO o (stepO (finE a) k) 1) = lenO o + 1 := by unfold snocO; rw [lenO_app]; rfl
          (repeat (first | with_reducible refine Ops.nil ?_ | refine z_p (kk := ?_) | with_reducible refine W.endb ?_))
          exact W.endl ⟨_, ⟨lv', _, snocO o (stepO (finE a) k) 1, rfl, hP6, OA_snoc hM6 (hOA.kp (kpF hb06) (fun _ e => e.elim)), hst.symm, hb06, by omega⟩, (by repeat (first | exact trivial | refine And.intro rfl ?_))⟩
        · have h0 : kindO (finE a) = 0 := by omega
          rw [h0] at hst ⊢
          have htl : tlS 0 (stepO (finE a) k) k = .nil := by simp [tlS]
          rw [htl, appO_nil] at hst
          refine W.condF rfl (by first | rfl | assumption | (simp only [bnf] <;> omega) | (simp only [*, bnf]; done) | fail) ?_
          (repeat (first | with_reducible refine W.seq ?_ | with_reducible refine Ops.nil ?_ | with_reducible refine W.region ?_ | refine z_p (kk := ?_)))
          refine W.condF rfl (by first | rfl | assumption | (simp only [bnf] <;> omega) | (simp only [*, bnf]; done) | fail) ?_
          (repeat (first | with_reducible refine W.skip ?_ | with_reducible refine W.endb ?_))
          exact W.endl ⟨_, ⟨v, l, o, rfl, hP4, hOA.kp (kpF hb04) (fun _ e => e.elim), hst.symm, hb04, by omega⟩, (by repeat (first | exact trivial | refine And.intro rfl ?_))⟩
    · rintro ρ w6 ⟨v7, l7, o7, rfl, hP7, hOA7, rfl, hb06, hlo7⟩
      (repeat (first | with_reducible refine W.seq ?_ | with_reducible refine Ops.nil ?_ | with_reducible refine W.region ?_ | refine z_p (kk := ?_)))
      exact W.fret rfl ⟨pr_OM hP7 hS hOA7 (by omega), hb06⟩
end Go.Proofs.YtcmjlmnfdncajaaGreatDoor
namespace Go.Proofs.YtcmjlmnfdncajaaGreatDoor
open Go Go.RowKit Go.Proofs.YtcmjlmnfdncajaaGreatDoor.VW Go.Proofs.YtcmjlmnfdncajaaGreatDoor.TW
attribute [local irreducible] W Ops OrdA VW.Ord OrdX Wi OpsI OrdF
theorem OM.asH {S : Nat → Prop} {w : World} {v : Value} {o : Od} (h : OM S w v o) : ∃ x : HS, v = eH x := by
  obtain ⟨l, hR, hA⟩ := h
  obtain ⟨A, c, rfl⟩ := hR.sh
  exact ⟨(A, l.length, c), rfl⟩
theorem same_c {S' : Nat → Prop} {w : World} {s : List UInt8} {e : Int} {v : Value} {o : Od} {B : Bool} (hB : B = true → s = [] ∧ e = 5) (hB2 : B = false → s = txO o ∧ e = 0 ∧ OM S' w v o ∧ szO o ≤ 1000000 ∧ mostO o ≤ 9999) :
    Calls Tryz.prog 29 #[S s, .int .i64 e, v, .bool B] w (Ret fun r w' => r = .bool true ∧ Below w.heap.size w w') := by
  refine calls_W (vs := [_, _, _, _]) Tryz.func29 rfl (by kernel_rfl) rfl ?_
  cases B with
  | true =>
    obtain ⟨rfl, rfl⟩ := hB rfl
    (repeat (first | with_reducible refine W.seq ?_ | with_reducible refine Ops.nil ?_ | with_reducible refine W.region ?_ | refine z_p (kk := ?_)))
    refine W.condT rfl (by first | rfl | assumption | (simp only [bnf] <;> omega) | (simp only [*, bnf]; done) | fail) ?_
    (repeat (first | with_reducible refine W.seq ?_ | with_reducible refine Ops.nil ?_ | with_reducible refine W.region ?_ | refine z_p (kk := ?_) | refine z_y (kk := ?_) | refine z_ev (EV.seq rfl rfl rfl rfl) (kk := ?_)))
    exact W.fret rfl ⟨rfl, Below.refl _ _⟩
  | false =>
    obtain ⟨rfl, rfl, hM, hz, hm⟩ := hB2 rfl
    have hd : decide (txO o = txO o) = true := by simp
    (repeat (first | with_reducible refine W.seq ?_ | with_reducible refine Ops.nil ?_ | with_reducible refine W.region ?_ | refine z_p (kk := ?_)))
    refine W.condF rfl (by first | rfl | assumption | (simp only [bnf] <;> omega) | (simp only [*, bnf]; done) | fail) ?_
    (repeat (first | with_reducible refine W.seq ?_ | with_reducible refine W.region ?_ | refine z_p (kk := ?_) | with_reducible refine W.skip ?_))
    refine Ops.call rfl rfl rfl rfl rfl (refText_c _ (Nat.le_refl _) (by omega) hm hM) (fun r w1 hR => ?_)
    obtain ⟨rfl, hb1⟩ := hR
    (repeat (first | with_reducible refine Ops.nil ?_ | refine z_p (kk := ?_) | refine z_y (kk := ?_) | refine z_ev (EV.seq rfl rfl rfl rfl) (kk := ?_) | refine z_h (kk := ?_)))
    exact W.fret rfl ⟨rfl, hb1⟩
theorem desO_nil {f n : Nat} : desW bigO (f + 1) .nil n = some [.nil] := rfl
theorem desO_big {f n : Nat} {a : Od} (ha : a ≠ .nil) (h : bigO (stepO a n) = true) : desW bigO (f + 1) a n = none := by
  cases a with
  | nil => exact absurd rfl ha
  | cons e c r => simp only [desW]; rw [if_pos h]
theorem desO_go {f n : Nat} {a : Od} (ha : a ≠ .nil) (h : bigO (stepO a n) = false) : desW bigO (f + 1) a n = (desW bigO f (stepO a n) (n + 1)).map (a :: ·) := by
  cases a with
  | nil => exact absurd rfl ha
  | cons e c r => simp only [desW]; rw [if_neg (by rw [h]; simp)]
set_option maxHeartbeats 16000000 in
theorem rDescent_c {S' : Nat → Prop} {w : World} {va : Value} {a : Od} {n : Nat} (hz0 : szO a ≤ 60) (hm0 : mostO a ≤ 1000) (hn : n ≤ 1000) (hS : ∀ i, S' i → i < w.heap.size) (hA : OM S' w va a) :
    Calls Tryz.prog 31 #[va, .int .i64 (n : Int)] w (Ret fun r w' => ((desW bigO 300 a n = none ∧ ∃ v, r = .tuple #[v, .bool false]) ∨ (∃ l v hs, desW bigO 300 a n = some l ∧ r = .tuple #[v, .bool true] ∧ R1 S' w' v hs ∧ LM S' w' hs l)) ∧ Below w.heap.size w w') := by
  obtain ⟨x0, rfl⟩ := hA.asH
  refine calls_W (vs := [_, _]) Tryz.func31 rfl (by kernel_rfl) rfl ?_
  (repeat (first | with_reducible refine W.seq ?_ | with_reducible refine Ops.nil ?_ | with_reducible refine W.region ?_ | refine z_p (kk := ?_)))
  refine Ops.bs1 rfl rfl rfl rfl rfl rfl rfl rfl rfl (fun w1 r hM => ?_)
  have hb01 := Mk.bel hM
  have e1 := hM.r_eq
  have s1 := hb01.size
  have hL1 : LO 42 eH w.heap.size w1 (.slice (some ⟨r, 0, none⟩) 1 1) [x0] := ⟨own_one hM, fun i hi => by simp [Value.ownBlock] at hi; omega⟩
  have hA1 : OM (fun i => S' i ∨ (Value.slice (some ⟨r, 0, none⟩) 1 1).ownBlock = some i) w1 (eH x0) a := (hA.more (S' := fun i => S' i ∨ (Value.slice (some ⟨r, 0, none⟩) 1 1).ownBlock = some i) (fun i h => by
    rcases h with h | h
    · exact .inl h
    · have := hL1.ge i h; exact .inr this)).below hb01
  have hLM1 : LM (fun i => S' i ∨ (Value.slice (some ⟨r, 0, none⟩) 1 1).ownBlock = some i) w1 [x0] [a] := LM.nil.snoc hA1
  generalize hlv : Value.slice (some ⟨r, 0, none⟩) 1 1 = lv0 at *
  (repeat (first | with_reducible refine W.seq ?_ | with_reducible refine Ops.nil ?_ | refine z_p (kk := ?_) | with_reducible refine W.block ?_))
  refine W.loop (fun m ρ w2 => ∃ (a' : Od) (n' : Nat) (pre : List Od) (hs : List HS) (x : HS) (lv : Value), m = 300 - pre.length ∧ ρ = [(0, eH x), (1, .int .i64 (n' : Int)), (6, lv)] ∧ pre.length ≤ 299 ∧ n' = n + pre.length ∧ Below w.heap.size w w2 ∧ LO 42 eH w.heap.size w2 lv hs ∧
      OM (fun i => S' i ∨ lv.ownBlock = some i) w2 (eH x) a' ∧ LM (fun i => S' i ∨ lv.ownBlock = some i) w2 hs (pre ++ [a']) ∧ szO a' ≤ 60 ∧ mostO a' ≤ 1000 ∧ desW bigO 300 a n = (desW bigO (300 - pre.length) a' n').map (pre ++ ·))
    ⟨_, _, ⟨a, n, [], [x0], x0, lv0, rfl, rfl, Nat.zero_le _, rfl, hb01, hL1, hA1, hLM1, hz0, hm0, by simp⟩, (by repeat (first | exact trivial | refine And.intro rfl ?_))⟩ ?_
  clear hL1 hA1 hLM1
  rintro m ρ w2 ⟨a', n', pre, hs, x, lv, rfl, rfl, hpl, hn', hb02, hL, hO, hLM, hz, hm, hdes⟩
  have hhl : hs.length = pre.length + 1 := by rw [hLM.1]; simp
  have s2 := hb02.size
  obtain ⟨f, hf⟩ : ∃ f, 300 - pre.length = f + 1 := ⟨299 - pre.length, by omega⟩
  rw [hf] at hdes
  have hb22 : Below w2.heap.size w2 w2 := Below.refl _ _
  obtain ⟨l, hRl, hAl⟩ := id hO
  have hll := hAl.len
  obtain ⟨Ax, cx, hx⟩ := hRl.sh
  by_cases hnil : a' = .nil
  · subst hnil
    have h0 : l.length = 0 := hll
    rw [desO_nil] at hdes
    rw [hx, h0]
    (repeat (first | with_reducible refine W.seq ?_ | with_reducible refine Ops.nil ?_ | with_reducible refine W.region ?_ | refine z_p (kk := ?_) | refine z_l (kk := ?_)))
    refine W.condF rfl (by first | rfl | assumption | (simp only [bnf] <;> omega) | (simp only [*, bnf]; done) | fail) ?_
    (repeat (first | with_reducible refine W.seq ?_ | with_reducible refine Ops.nil ?_ | with_reducible refine W.region ?_ | refine z_p (kk := ?_) | refine W.exit rfl ?_))
    refine W.fret rfl ⟨.inr ⟨pre ++ [Od.nil], lv, hs, by rw [hdes]; rfl, rfl, ?_, hLM.1, fun i hi => (hLM.2 i hi).more (fun j hj => .inl (.inl hj))⟩, hb02⟩
    exact hL.r1 s2 (by omega) hS
  · have hlp : 0 < l.length := Nat.pos_of_ne_zero (fun h => hnil (lenO_zero.1 (by omega)))
    have hS2 : ∀ i, (S' i ∨ lv.ownBlock = some i) → i < w2.heap.size := fun i h => by
      rcases h with h | h
      · have := hS i h; omega
      · exact (hL.own.lt i h).2
    have hsm := step_most a' n'
    have hss := step_sz a' n'
    have hsq : szO a' * (szO a' + 1) ≤ 60 * 61 := Nat.mul_le_mul hz (by omega)
    rw [hx]
    (repeat (first | with_reducible refine W.seq ?_ | with_reducible refine Ops.nil ?_ | with_reducible refine W.region ?_ | refine z_p (kk := ?_) | refine z_l (kk := ?_)))
    refine W.condT rfl (by first | (simp; done) | (simp; omega)) ?_
    rw [← hx]
    (repeat (first | with_reducible refine W.seq ?_ | with_reducible refine W.region ?_ | refine z_p (kk := ?_) | with_reducible refine W.skip ?_ | with_reducible refine W.block ?_))
    refine Ops.call rfl rfl rfl rfl rfl (rStep_c _ (Nat.le_refl _) (by omega) hnil (by omega) (by omega) hS2 hO) (fun v3 w3 hR => ?_)
    obtain ⟨hO3, hb23⟩ := hR
    have hb03 := Below.via hb02 hb23
    obtain ⟨y, rfl⟩ := hO3.asH
    (repeat (first | with_reducible refine W.seq ?_ | with_reducible refine Ops.nil ?_ | with_reducible refine W.region ?_ | refine z_p (kk := ?_) | refine z_a (kk := ?_)))
    refine Ops.call rfl rfl rfl rfl rfl (rFull_c (by omega) hO3) (fun r w4 hR => ?_)
    obtain ⟨rfl, hb34⟩ := hR
    have hb24 := Below.via hb23 hb34
    have hb04 := Below.via hb02 hb24
    have hL4 := hL.below hb24
    have hLM4 := hLM.below hb24
    have hO4 := hO3.below hb34
    cases hbg : bigO (stepO a' n') with
    | true =>
      rw [desO_big hnil hbg] at hdes
      (repeat (first | with_reducible refine Ops.nil ?_ | refine z_p (kk := ?_) | refine z_n (kk := ?_)))
      refine W.condT rfl (by first | rfl | assumption | (simp only [bnf] <;> omega) | (simp only [*, bnf]; done) | fail) ?_
      (repeat (first | with_reducible refine W.seq ?_ | with_reducible refine Ops.nil ?_ | with_reducible refine W.region ?_ | refine z_p (kk := ?_)))
      exact W.fret rfl ⟨.inl ⟨hdes, _, rfl⟩, hb04⟩
    | false =>
      rw [desO_go hnil hbg] at hdes
      have hbf := of_decide_eq_false hbg
      obtain ⟨Al, cl, hlv2⟩ := hL4.sh
      by_cases h300 : hs.length = 300
      · have hf0 : f = 0 := by omega
        subst hf0
        have hno : desW bigO 300 a n = none := by rw [hdes]; rfl
        rw [hlv2, h300]
        (repeat (first | with_reducible refine Ops.nil ?_ | refine z_p (kk := ?_) | refine z_y (kk := ?_) | refine z_l (kk := ?_)))
        refine W.condT rfl (by first | rfl | assumption | (simp only [bnf] <;> omega) | (simp only [*, bnf]; done) | fail) ?_
        (repeat (first | with_reducible refine W.seq ?_ | with_reducible refine Ops.nil ?_ | with_reducible refine W.region ?_ | refine z_p (kk := ?_)))
        exact W.fret rfl ⟨.inl ⟨hno, _, rfl⟩, hb04⟩
      · have f1 : ((((hs.length : Nat) : Int)) == 300) = false := by rw [beq_eq_false_iff_ne]; omega
        rw [hlv2]
        (repeat (first | with_reducible refine Ops.nil ?_ | refine z_p (kk := ?_) | refine z_y (kk := ?_) | refine z_l (kk := ?_)))
        refine W.condF rfl (by first | rfl | assumption | (simp; done) | (simp; omega)) ?_
        rw [← hlv2]
        (repeat (first | with_reducible refine W.region ?_ | refine z_p (kk := ?_) | with_reducible refine W.skip ?_))
        refine Ops.pushO (enc := eH) (u := y) rfl rfl rfl rfl rfl rfl rfl rfl rfl rfl rfl rfl (fun _ => rfl) rfl (hL4.base hb04.size) (by omega) (fun lv' p w5 hO5 k5 hn5 => ?_)
        replace hO5 := LO.put hO5 hb04.size
        have hst : ∀ i, (S' i ∨ lv'.ownBlock = some i) → (S' i ∨ lv.ownBlock = some i) ∨ w4.heap.size ≤ i := fun i h => by
          rcases h with h | h
          · exact .inl (.inl h)
          · rcases hn5 i h with q | q
            · exact .inl (.inr q)
            · exact .inr q
        have hOM5 := hO4.put k5 (fun i h => .inr h) hst
        have hLM5 := (hLM4.put k5 (fun i h => .inr h) hst).snoc hOM5
        have hb05 : Below w.heap.size w w5 := Below.put hb04 k5 (fun j hj => hL4.ge j hj)
        (repeat (first | with_reducible refine Ops.nil ?_ | refine z_p (kk := ?_) | with_reducible refine W.endb ?_))
        refine W.endl ⟨_, _, ⟨⟨stepO a' n', n' + 1, pre ++ [a'], hs ++ [y], y, lv', rfl, rfl, by simp; omega, by simp; omega, hb05, hO5, hOM5, hLM5, by omega, by omega, ?_⟩, by simp; omega⟩, (by repeat (first | exact trivial | refine And.intro rfl ?_))⟩
        rw [hdes, show 300 - (pre ++ [a']).length = f by simp; omega, Option.map_map]
        congr 1
        funext q
        simp
end Go.Proofs.YtcmjlmnfdncajaaGreatDoor
namespace Go.Proofs.YtcmjlmnfdncajaaGreatDoor
open Go Go.RowKit Go.Proofs.YtcmjlmnfdncajaaGreatDoor.VW Go.Proofs.YtcmjlmnfdncajaaGreatDoor.TW
attribute [local irreducible] W Ops OrdA VW.Ord OrdX Wi OpsI OrdF
def kindR (s : List UInt8) : Except Int Nat := match rdA s with
  | none => .error 4
  | some a => .ok (kindO a)
def outK : Except Int Nat → Int
  | .ok x => (x : Int)
  | .error _ => 0
theorem Kind1_c {w : World} {b0 b3 : Nat} {s : List UInt8} (hs : s.length ≤ 4294967295) (B0 : Blk w b0 #[S s] 9) (B3 : Blk w b3 #[.int .i64 0] 3) :
    Calls Tryz.prog 74 #[.pointer (some ⟨b0, 0, none⟩), .pointer (some ⟨b3, 0, none⟩)] w
      (RetP (fun _ w' => Kp (fun i => i = b3) w w' ∧ ∃ x, kindR s = .ok x ∧ Blk w' b3 #[.int .i64 (x : Int)] 3) (fun ch w' => ∃ e, ch = trb e ∧ Kp (fun i => i = b3) w w' ∧ kindR s = .error e ∧ Kp (fun _ => False) w w')) := by
  refine calls_WP (vs := [_, _]) Tryz.func74 rfl (by kernel_rfl) rfl ?_
  (repeat (first | with_reducible refine W.region ?_ | refine z_d (kk := ?_)))
  refine Ops.callP rfl rfl rfl rfl rfl (readOrdinal_c hs) (fun va w1 hR => ?_) (fun ch w1 hR => ?_)
  rotate_left
  · obtain ⟨rfl, h1, hb1⟩ := hR
    exact ⟨4, rfl, (kpF hb1).mono (fun _ _ e => e.elim), by unfold kindR; rw [h1], kpF hb1⟩
  obtain ⟨a, ha, hA, hb1⟩ := hR
  have B31 := B3.kp (kpF hb1) (fun e => e)
  skip
  refine Ops.callS rfl rfl rfl rfl rfl (kind_c hA) ?_
  refine Ops.st rfl rfl rfl rfl rfl rfl rfl B31 (by simp) (fun w4 hu => ?_)
  (repeat (first | with_reducible refine Ops.nil ?_))
  refine W.fendP rfl ⟨((kpF hb1).trans hu.kp).mono (fun _ _ e => by rcases e with e | e; exact e.elim; exact e), kindO a, ?_, by simpa using hu.blk⟩
  unfold kindR
  rw [ha]
theorem Kind_c {w : World} {s : List UInt8} (hs : s.length ≤ 4294967295) :
    Calls Tryz.prog 24 #[S s] w (Ret fun r w' => r = .tuple #[.int .i64 (outK (kindR s)), .int .i64 (outE (kindR s))] ∧ Below w.heap.size w w') := by
  refine calls_W (vs := [_]) Tryz.func24 rfl (by kernel_rfl) rfl ?_
  (repeat (first | with_reducible refine W.seq ?_ | with_reducible refine W.region ?_))
  refine Ops.box rfl rfl rfl rfl (fun w1 b0 hM1 => ?_)
  refine Ops.alloc rfl rfl rfl rfl (fun w4 b3 hM4 => ?_)
  have hb14 := Mk.bel hM4
  have hb04 := Below.via (Mk.bel hM1) hb14
  have B0 : Blk w4 b0 #[S s] 9 := Blk.kp (w := w1) (hM1.at_) (kpF hb14) (fun e => e)
  have B3 : Blk w4 b3 #[.int .i64 0] 3 := hM4.at_
  have e3 := hM4.r_eq
  have l3 := B3.lt
  have hw03 := (Mk.bel hM1).size
  (repeat (first | with_reducible refine W.seq ?_ | with_reducible refine Ops.nil ?_ | with_reducible refine W.region ?_ | refine z_p (kk := ?_)))
  refine Ops.call rfl rfl rfl rfl rfl (guard_c (F := 74) (caps := [.pointer (some ⟨b0, 0, none⟩), .pointer (some ⟨b3, 0, none⟩)]) (T := fun i => i = b3) (N := fun _ w' => ∃ x, kindR s = .ok x ∧ Blk w' b3 #[.int .i64 (x : Int)] 3) (E' := fun w1 w' e => kindR s = .error e ∧ Kp (fun _ => False) w1 w') rfl (fun i h => by omega) (fun w5 hlt hb5 => Kind1_c hs (B0.kp (kpF hb5) (fun e => e)) (B3.kp (kpF hb5) (fun e => e)))) (fun r w' hR => ?_)
  obtain ⟨w5, w6, hlt, hb5, k56, k67, hor⟩ := hR
  have hfin : ∃ x e, x = outK (kindR s) ∧ e = outE (kindR s) ∧ r = .int .i64 e ∧ Blk w' b3 #[.int .i64 x] 3 := by
    rcases hor with ⟨rfl, x, h1, h2⟩ | ⟨e, rfl, h1, h2⟩
    · exact ⟨x, 0, by rw [h1]; rfl, by rw [h1]; rfl, rfl, h2.kp k67 (fun h => by omega)⟩
    · exact ⟨0, e, by rw [h1]; rfl, by rw [h1]; rfl, rfl, ((B3.kp (kpF hb5) (fun e => e)).kp h2 (fun e => e)).kp k67 (fun h => by omega)⟩
  obtain ⟨x, e, hx, he, rfl, B3'⟩ := hfin
  have hb0' : Below w.heap.size w w' := Below.put (Below.put (Below.via hb04 hb5) k56 (fun i h => by omega)) k67 (fun i h => by omega)
  have hbww : Below w'.heap.size w' w' := Below.refl _ _
  rw [← hx, ← he]
  (repeat (first | with_reducible refine W.seq ?_ | with_reducible refine Ops.nil ?_ | with_reducible refine W.region ?_ | refine z_p (kk := ?_) | refine z_d (kk := ?_)))
  refine Ops.st rfl rfl rfl rfl rfl rfl rfl B3' (by simp) (fun w7 hu => ?_)
  have B7 : Blk w7 b3 #[.int .i64 x] 3 := by simpa using hu.blk
  (repeat (first | with_reducible refine Ops.nil ?_ | refine z_p (kk := ?_)))
  exact W.fretW (vs := [_, _]) ⟨_, _, rfl, ⟨b3, 0, _, 3, rfl, rfl, B7, rfl⟩, _, _, rfl, rfl, rfl⟩ ⟨rfl, Below.put hb0' hu.kp (fun i h => by omega)⟩
def stepR (s : List UInt8) (n : Int) : Except Int (List UInt8) := match rdA s with
  | none => .error 4
  | some a => if 0 ≤ n ∧ n ≤ 1000 then (if kindO a = 0 then .error 6 else if bigT (stepO a n.toNat) = true then .error 5 else .ok (txO (stepO a n.toNat))) else .error 2
set_option maxHeartbeats 2000000 in
theorem Step1_c {w : World} {b0 b1 b3 : Nat} {s : List UInt8} {n : Int} (hs : s.length ≤ 4294967295) (hT : Tbl w) (B0 : Blk w b0 #[S s] 9) (B1 : Blk w b1 #[.int .i64 n] 3) (B3 : Blk w b3 #[S []] 9) :
    Calls Tryz.prog 76 #[.pointer (some ⟨b0, 0, none⟩), .pointer (some ⟨b1, 0, none⟩), .pointer (some ⟨b3, 0, none⟩)] w
      (RetP (fun _ w' => Kp (fun i => i = b3) w w' ∧ ∃ x, stepR s n = .ok x ∧ Blk w' b3 #[S x] 9) (fun ch w' => ∃ e, ch = trb e ∧ Kp (fun i => i = b3) w w' ∧ stepR s n = .error e ∧ Kp (fun _ => False) w w')) := by
  refine calls_WP (vs := [_, _, _]) Tryz.func76 rfl (by kernel_rfl) rfl ?_
  (repeat (first | with_reducible refine W.seq ?_ | with_reducible refine W.region ?_ | refine z_d (kk := ?_)))
  refine Ops.callP rfl rfl rfl rfl rfl (readOrdinal_c hs) (fun va w1 hR => ?_) (fun ch w1 hR => ?_)
  rotate_left
  · obtain ⟨rfl, h1, hb1⟩ := hR
    exact ⟨4, rfl, (kpF hb1).mono (fun _ _ e => e.elim), by unfold stepR; rw [h1], kpF hb1⟩
  obtain ⟨a, ha, hA, hb1⟩ := hR
  obtain ⟨na, sa, za⟩ := rdA_spec ha
  have B11 := B1.kp (kpF hb1) (fun e => e)
  have B31 := B3.kp (kpF hb1) (fun e => e)
  have hdef : stepR s n = if 0 ≤ n ∧ n ≤ 1000 then (if kindO a = 0 then .error 6 else if bigT (stepO a n.toNat) = true then .error 5 else .ok (txO (stepO a n.toNat))) else .error 2 := by unfold stepR; rw [ha]
  have hb11 : Below w1.heap.size w1 w1 := Below.refl _ _
  (repeat (first | with_reducible refine W.seq ?_ | with_reducible refine Ops.nil ?_ | with_reducible refine W.region ?_ | refine z_p (kk := ?_) | refine z_d (kk := ?_)))
  refine Ops.callS rfl rfl rfl rfl rfl (within_c _ _ _ _) ?_
  skip
  refine Ops.callP rfl rfl rfl rfl rfl (demand_c _ _ _) (fun r w2 hR => ?_) (fun ch w2 hR => ?_)
  rotate_left
  · obtain ⟨hb, rfl, rfl⟩ := hR
    have h2 := of_decide_eq_false hb
    exact ⟨2, rfl, (kpF hb1).mono (fun _ _ e => e.elim), by rw [hdef, if_neg h2], kpF hb1⟩
  obtain ⟨hb, hw⟩ := hR
  subst w2
  have h2 := of_decide_eq_true hb
  clear hb
  rw [if_pos h2] at hdef
  obtain ⟨m, rfl⟩ : ∃ m : Nat, n = (m : Int) := ⟨n.toNat, by omega⟩
  rw [Int.toNat_natCast] at hdef
  obtain ⟨l, hRl, hAl⟩ := id hA
  have hll := hAl.len
  obtain ⟨A, c, rfl⟩ := hRl.sh
  (repeat (first | with_reducible refine W.seq ?_ | with_reducible refine Ops.nil ?_ | with_reducible refine W.region ?_ | refine z_p (kk := ?_) | refine z_l (kk := ?_)))
  refine Ops.callP rfl rfl rfl rfl rfl (demand_c _ _ _) (fun r w2 hR => ?_) (fun ch w2 hR => ?_)
  rotate_left
  · obtain ⟨hb, rfl, rfl⟩ := hR
    have h3 := of_decide_eq_false hb
    exact ⟨6, rfl, (kpF hb1).mono (fun _ _ e => e.elim), by rw [hdef, if_pos (kind_zero.2 (lenO_zero.1 (by omega)))], kpF hb1⟩
  obtain ⟨hb, hw⟩ := hR
  subst w2
  have h3 := of_decide_eq_true hb
  clear hb
  have hne : a ≠ .nil := fun e => by have := lenO_zero.2 e; omega
  rw [if_neg (fun h => hne (kind_zero.1 h))] at hdef
  have hmo := small_most sa
  have hsm := step_most a m
  have hss := step_sz a m
  have hsq : szO a * (szO a + 1) ≤ 60 * 61 := Nat.mul_le_mul za (by omega)
  (repeat (first | with_reducible refine Ops.nil ?_ | with_reducible refine W.region ?_ | refine z_p (kk := ?_) | refine z_d (kk := ?_)))
  refine Ops.call rfl rfl rfl rfl rfl (step_c _ (S' := fun i => i < w.heap.size) (Nat.le_refl _) (by omega) hne (by omega) (by omega) (fun i hi => by have := hb1.size; omega) hA) (fun v2 w2 hR => ?_)
  obtain ⟨hM2, hb2⟩ := hR
  have hb02 := Below.via hb1 hb2
  skip
  refine Ops.callP rfl rfl rfl rfl rfl (checked_c hM2 (by omega)) (fun vc w3 hR => ?_) (fun ch w3 hR => ?_)
  rotate_left
  · obtain ⟨rfl, hbig, hb3⟩ := hR
    have k03 : Kp (fun _ => False) w w3 := kpF (Below.via hb02 hb3)
    exact ⟨5, rfl, k03.mono (fun _ _ e => e.elim), by rw [hdef, if_pos hbig], k03⟩
  obtain ⟨rfl, hbig, hb3⟩ := hR
  have hb03 := Below.via hb02 hb3
  refine Ops.call rfl rfl rfl rfl rfl (text_c _ (Nat.le_refl _) (by omega) (by omega) (hT.below hb03) (hM2.below hb3)) (fun vt w4 hR => ?_)
  obtain ⟨rfl, hb4⟩ := hR
  have hb04 := Below.via hb03 hb4
  have B34 := B3.kp (kpF hb04) (fun e => e)
  refine Ops.st rfl rfl rfl rfl rfl rfl rfl B34 (by simp) (fun w5 hu => ?_)
  (repeat (first | with_reducible refine Ops.nil ?_))
  refine W.fendP rfl ⟨((kpF hb04).trans hu.kp).mono (fun _ _ e => by rcases e with e | e; exact e.elim; exact e), txO (stepO a m), by rw [hdef, if_neg (by rw [hbig]; simp)], by simpa using hu.blk⟩
theorem Step_c {w : World} {s : List UInt8} {n : Int} (hs : s.length ≤ 4294967295) (hT : Tbl w) :
    Calls Tryz.prog 25 #[S s, .int .i64 n] w (Ret fun r w' => r = .tuple #[S (outS (stepR s n)), .int .i64 (outE (stepR s n))] ∧ Below w.heap.size w w') := by
  refine calls_W (vs := [_, _]) Tryz.func25 rfl (by kernel_rfl) rfl ?_
  (repeat (first | with_reducible refine W.seq ?_ | with_reducible refine W.region ?_))
  refine Ops.box rfl rfl rfl rfl (fun w1 b0 hM1 => ?_)
  refine Ops.box rfl rfl rfl rfl (fun w2 b1 hM2 => ?_)
  refine Ops.alloc rfl rfl rfl rfl (fun w4 b3 hM4 => ?_)
  have hb24 := Mk.bel hM4
  have hb14 := Below.via (Mk.bel hM2) hb24
  have hb04 := Below.via (Mk.bel hM1) hb14
  have B0 : Blk w4 b0 #[S s] 9 := Blk.kp (w := w1) (hM1.at_) (kpF hb14) (fun e => e)
  have B1 : Blk w4 b1 #[.int .i64 n] 3 := Blk.kp (w := w2) (hM2.at_) (kpF hb24) (fun e => e)
  have B3 : Blk w4 b3 #[S []] 9 := hM4.at_
  have e3 := hM4.r_eq
  have s1 := hM1.size
  have s2 := hM2.size
  have s4 := hM4.size
  (repeat (first | with_reducible refine W.seq ?_ | with_reducible refine Ops.nil ?_ | with_reducible refine W.region ?_ | refine z_p (kk := ?_)))
  refine Ops.call rfl rfl rfl rfl rfl (guard_c (F := 76) (caps := [.pointer (some ⟨b0, 0, none⟩), .pointer (some ⟨b1, 0, none⟩), .pointer (some ⟨b3, 0, none⟩)]) (T := fun i => i = b3) (N := fun w1 w' => ∃ x, stepR s n = .ok x ∧ Blk w' b3 #[S x] 9) (E' := fun w1 w' e => stepR s n = .error e ∧ Kp (fun _ => False) w1 w') rfl (fun i h => by omega) (fun w5 hlt hb5 => Step1_c hs (hT.below (Below.via hb04 hb5)) (B0.kp (kpF hb5) (fun e => e)) (B1.kp (kpF hb5) (fun e => e)) (B3.kp (kpF hb5) (fun e => e)))) (fun r w' hR => ?_)
  obtain ⟨w5, w6, hlt, hb5, k56, k67, hor⟩ := hR
  have hfin : ∃ x e, x = outS (stepR s n) ∧ e = outE (stepR s n) ∧ r = .int .i64 e ∧ Blk w' b3 #[S x] 9 := by
    rcases hor with ⟨rfl, x, h1, h2⟩ | ⟨e, rfl, h1, h2⟩
    · exact ⟨x, 0, by rw [h1]; rfl, by rw [h1]; rfl, rfl, h2.kp k67 (fun h => by omega)⟩
    · exact ⟨[], e, by rw [h1]; rfl, by rw [h1]; rfl, rfl, ((B3.kp (kpF hb5) (fun e => e)).kp h2 (fun e => e)).kp k67 (fun h => by omega)⟩
  obtain ⟨x, e, hx, he, rfl, B3'⟩ := hfin
  have hb0' : Below w.heap.size w w' := Below.put (Below.put (Below.via hb04 hb5) k56 (fun i h => by omega)) k67 (fun i h => by omega)
  have hbww : Below w'.heap.size w' w' := Below.refl _ _
  rw [← hx, ← he]
  (repeat (first | with_reducible refine W.seq ?_ | with_reducible refine Ops.nil ?_ | with_reducible refine W.region ?_ | refine z_p (kk := ?_) | refine z_d (kk := ?_)))
  refine Ops.st rfl rfl rfl rfl rfl rfl rfl B3' (by simp) (fun w7 hu => ?_)
  have B7 : Blk w7 b3 #[S x] 9 := by simpa using hu.blk
  (repeat (first | with_reducible refine Ops.nil ?_ | refine z_p (kk := ?_)))
  exact W.fretW (vs := [_, _]) ⟨_, _, rfl, ⟨b3, 0, _, 9, rfl, rfl, B7, rfl⟩, _, _, rfl, rfl, rfl⟩ ⟨rfl, Below.put hb0' hu.kp (fun i h => by omega)⟩
end Go.Proofs.YtcmjlmnfdncajaaGreatDoor
namespace Go.Proofs.YtcmjlmnfdncajaaGreatDoor
open Go Go.RowKit Go.Proofs.YtcmjlmnfdncajaaGreatDoor.VW Go.Proofs.YtcmjlmnfdncajaaGreatDoor.TW
attribute [local irreducible] W Ops OrdA VW.Ord OrdX Wi OpsI OrdF
theorem full_c (e : Int) (w : World) : Calls Tryz.prog 22 #[.int .i64 e] w (Ret fun r w' => r = .bool (decide (e = 5)) ∧ w' = w) := by
  refine calls_W (vs := [_]) Tryz.func22 rfl (by kernel_rfl) rfl ?_
  (repeat (first | with_reducible refine W.seq ?_ | with_reducible refine Ops.nil ?_ | with_reducible refine W.region ?_ | refine z_p (kk := ?_)))
  refine W.fret rfl ⟨?_, rfl⟩
  show Value.bool _ = _
  by_cases h : e = 5 <;> simp [h]
theorem modI_nat {a n : Nat} (h : a < 18446744073709551616) : modI (a : Int) (n : Int) = ((a % n : Nat) : Int) := by
  unfold modI
  rw [show (a : Int) % 18446744073709551616 = (a : Int) by omega]
  exact (Int.natCast_emod a n).symm
theorem modI_ex (x : Int) {n : Int} (h : 0 < n) : ∃ k : Nat, modI x n = (k : Int) ∧ (k : Int) < n := by
  have := modI_bd x h
  exact ⟨(modI x n).toNat, by omega, by omega⟩
theorem bumR_small {x b : Nat} (hb : 2 ≤ b) (hb2 : b ≤ 1000) (hx : x < b) : bumR (x : Int) (b : Int) = .ok (x, numO x) := by
  have h1 : bmp b x = x := bmp_small hb hx
  have h2 : lif b x = numO x := lif_small hb hx
  have h3 : bigT (numO x) = false := by
    unfold numO ptO
    split
    · exact decide_eq_false (by simp only [topO, szO]; omega)
    · rfl
  unfold bumR
  rw [if_pos (by omega), Int.toNat_natCast, Int.toNat_natCast, h1, h2, if_pos ⟨by omega, h3⟩]
theorem cmpR_ok {a b : Od} (ha : rdA (txO a) = some a) (hb : rdA (txO b) = some b) : cmpR (txO a) (txO b) = .ok (cmpO a b) := by
  unfold cmpR
  rw [ha, hb]
theorem txO_le {b m : Nat} (hb : 2 ≤ b) (hb2 : b ≤ 1000) (h : bigT (lif b m) = false) : (txO (lif b m)).length ≤ 4294967295 := by
  have h2 := lif_most hb m m (Nat.le_refl _)
  have h3 := of_decide_eq_false h
  have := txO_len (o := lif b m) (by omega)
  omega
theorem intL_get (l : List Nat) (i : Nat) : (intL l).getD i 0 = ((l.getD i 0 : Nat) : Int) := by
  unfold intL
  simp only [List.getD_eq_getElem?_getD, List.getElem?_map]
  cases l[i]? <;> rfl
theorem txL_get {l : List Od} {i : Nat} (h : i < l.length) : (l.map txO).getD i [] = txO (l.getD i .nil) := by
  simp [List.getD_eq_getElem?_getD, h]
set_option maxHeartbeats 8000000 in
theorem goodLaw_c {w : World} {m steps base : Int} (hT : Tbl w) : Calls Tryz.prog 9 #[.int .i64 m, .int .i64 steps, .int .i64 base] w (Ret fun r w' => r = .bool true ∧ Below w.heap.size w w') := by
  refine calls_W (vs := [_, _, _]) Tryz.func9 rfl (by kernel_rfl) rfl ?_
  obtain ⟨m0, hm, hm1⟩ := modI_ex m (n := 1000001) (by omega)
  obtain ⟨s0, hs, hs1⟩ := modI_ex steps (n := 51) (by omega)
  obtain ⟨c0, hc, hc1⟩ := modI_ex base (n := 999) (by omega)
  (repeat (first | with_reducible refine W.seq ?_ | with_reducible refine Ops.nil ?_ | with_reducible refine W.region ?_ | refine z_p (kk := ?_)))
  refine Ops.callS rfl rfl rfl rfl rfl (mod_c m 1000001 _ (by omega) (by omega)) ?_
  (repeat (first | refine z_p (kk := ?_)))
  refine Ops.callS rfl rfl rfl rfl rfl (mod_c steps 51 _ (by omega) (by omega)) ?_
  (repeat (first | with_reducible refine W.seq ?_ | with_reducible refine Ops.nil ?_ | with_reducible refine W.region ?_ | refine z_p (kk := ?_)))
  refine Ops.callS rfl rfl rfl rfl rfl (mod_c base 999 _ (by omega) (by omega)) ?_
  rw [hm, hs, hc]
  (repeat (first | with_reducible refine W.seq ?_ | with_reducible refine Ops.nil ?_ | with_reducible refine W.region ?_ | refine z_p (kk := ?_) | refine z_a (kk := ?_)))
  rw [show (2 : Int) + (c0 : Int) = ((c0 + 2 : Nat) : Int) by omega]
  generalize hb0 : c0 + 2 = b0 at *
  have hb2 : 2 ≤ b0 := by omega
  have hb3 : b0 ≤ 1000 := by omega
  refine Ops.call rfl rfl rfl rfl rfl (Goodstein_c (m := (m0 : Int)) (steps := (s0 : Int)) hT) (fun r w1 hR => ?_)
  obtain ⟨v1, v2, rfl, hG1, hG2, hne, hb1⟩ := hR
  (repeat (first | with_reducible refine W.seq ?_ | with_reducible refine Ops.nil ?_ | with_reducible refine W.region ?_ | refine z_p (kk := ?_)))
  refine Ops.callS rfl rfl rfl rfl rfl (mod_c _ _ _ (by omega) (by omega)) ?_
  rw [modI_nat (by omega)]
  have hx := Nat.mod_lt m0 (show b0 > 0 by omega)
  have hB := bumR_small hb2 hb3 hx
  have hN : numR ((m0 % b0 : Nat) : Int) = .ok (m0 % b0) := by unfold numR; rw [if_pos (by omega), Int.toNat_natCast]
  generalize hxm : m0 % b0 = x0 at *
  (repeat (first | refine z_p (kk := ?_)))
  refine Ops.call rfl rfl rfl rfl rfl (Bumped_c (hT.below hb1)) (fun r w2 hR => ?_)
  obtain ⟨rfl, hb12⟩ := hR
  have hb02 := Below.via hb1 hb12
  rw [hB, show (outN (.ok (x0, numO x0))).1 = (x0 : Int) from rfl, show (outN (.ok (x0, numO x0))).2 = txO (numO x0) from rfl, show outE (.ok (x0, numO x0) : Except Int (Nat × Od)) = 0 from rfl]
  (repeat (first | with_reducible refine W.seq ?_ | with_reducible refine Ops.nil ?_ | with_reducible refine W.region ?_ | refine z_p (kk := ?_)))
  refine Ops.callS rfl rfl rfl rfl rfl (mod_c _ _ _ (by omega) (by omega)) ?_
  rw [modI_nat (by omega), hxm]
  skip
  refine Ops.call rfl rfl rfl rfl rfl (Number_c (hT.below hb02)) (fun r w3 hR => ?_)
  obtain ⟨rfl, hb23⟩ := hR
  have hb03 := Below.via hb02 hb23
  have hb13 := Below.via hb12 hb23
  rw [hN, show outM (.ok x0) = txO (numO x0) from rfl, show outE (.ok x0 : Except Int Nat) = 0 from rfl]
  (repeat (first | with_reducible refine W.seq ?_ | with_reducible refine Ops.nil ?_ | with_reducible refine W.region ?_ | refine z_p (kk := ?_) | refine z_y (kk := ?_)))
  refine Ops.callS rfl rfl rfl rfl rfl (mod_c _ _ _ (by omega) (by omega)) ?_
  rw [modI_nat (by omega), hxm]
  (repeat (first | with_reducible refine Ops.nil ?_ | refine z_p (kk := ?_) | refine z_y (kk := ?_) | refine z_ev (EV.sne rfl rfl rfl rfl) (kk := ?_) | refine z_h (kk := ?_)))
  refine W.condF rfl (by simp) ?_
  (repeat (first | with_reducible refine W.seq ?_ | with_reducible refine Ops.nil ?_ | with_reducible refine W.region ?_ | refine z_p (kk := ?_) | with_reducible refine W.skip ?_))
  have hgr : goodR (m0 : Int) (s0 : Int) = match goodL s0 2 m0 with
      | none => .error 5
      | some q => .ok q := by
    unfold goodR
    rw [if_pos (by omega), Int.toNat_natCast, Int.toNat_natCast]
    cases goodL s0 2 m0 <;> rfl
  cases hq : goodL s0 2 m0 with
  | none =>
    rw [hq] at hgr
    simp only at hgr
    rw [hgr] at hG1 hG2 ⊢
    obtain ⟨A1, d1, rfl⟩ := hG1.sh
    obtain ⟨A2, d2, rfl⟩ := hG2.sh
    rw [show outE (.error 5 : Except Int (List Nat × List Od)) = 5 from rfl]
    rw [show (intL (outG (.error 5)).1).length = 0 from rfl, show ((outG (.error 5)).2.map txO).length = 0 from rfl]
    skip
    refine W.condT rfl (by first | rfl | assumption | (simp only [bnf] <;> omega) | (simp only [*, bnf]; done) | fail) ?_
    (repeat (first | with_reducible refine W.seq ?_ | with_reducible refine W.region ?_ | refine z_p (kk := ?_)))
    refine Ops.callS rfl rfl rfl rfl rfl (full_c _ _) ?_
    (repeat (first | refine z_p (kk := ?_) | refine z_y (kk := ?_) | refine z_l (kk := ?_)))
    refine Ops.call rfl rfl rfl rfl rfl (awake_c (hT.below hb03)) (fun r w4 hR => ?_)
    obtain ⟨rfl, hb34⟩ := hR
    (repeat (first | with_reducible refine Ops.nil ?_ | refine z_p (kk := ?_)))
    exact W.fret rfl ⟨rfl, Below.via hb03 hb34⟩
  | some q =>
    rw [hq] at hgr
    simp only at hgr
    rw [hgr] at hG1 hG2 ⊢
    rw [show outE (.ok q : Except Int (List Nat × List Od)) = 0 from rfl]
    obtain ⟨ns, os⟩ := q
    have hS := goodL_spec _ _ _ hq
    rw [show (outG (.ok (ns, os))).1 = ns from rfl] at hG1
    rw [show (outG (.ok (ns, os))).2 = os from rfl] at hG2
    have hsl1 : SlI w1 v1 (intL ns) := (hG1.base hb1.size).sl (z := (0 : Int))
    have hsl2 : SlT w1 v2 (os.map txO) := (hG2.base hb1.size).sl (z := ([] : List UInt8))
    have hn1 := Sl.len hsl1
    have hn2 := Sl.len hsl2
    obtain ⟨A1, d1, rfl⟩ := hG1.sh
    obtain ⟨A2, d2, rfl⟩ := hG2.sh
    have q1 := hS.pos
    have q2 := hS.le
    have q3 := hS.lo
    have hil : (intL ns).length = ns.length := by simp [intL]
    have hol : (os.map txO).length = ns.length := by simp [q3]
    have hg0 : (intL ns).getD 0 0 = (m0 : Int) := by
      have := hS.hd
      rw [intL_get, this]
    skip
    refine W.condF rfl (by first | rfl | assumption | (simp only [bnf] <;> omega) | (simp only [*, bnf]; done) | fail) ?_
    (repeat (first | with_reducible refine W.seq ?_ | with_reducible refine W.region ?_ | refine z_p (kk := ?_) | refine z_a (kk := ?_) | refine z_y (kk := ?_) | with_reducible refine W.skip ?_ | refine z_l (kk := ?_) | refine z_K (kk := fun _ => ?_) | refine z_h (kk := ?_)))
    rw [show Int.toNat 0 = 0 from rfl, hg0]
    have hne0 : ((m0 : Int) != (m0 : Int)) = false := by simp
    rw [hne0]
    have hlast : ns.length ≤ s0 → (intL ns).getD (((intL ns).length : Int) - 1).toNat 0 = 0 := fun h => by
      rw [show (((intL ns).length : Int) - 1).toNat = ns.length - 1 by omega, intL_get, hS.fin h]; rfl
    refine Ops.cut (fun ρ w' => ρ = [(7, .slice A1 (intL ns).length d1), (8, .slice A2 (os.map txO).length d2), (124, .bool false)] ∧ w' = w3) ?_ ?_
    · (repeat (first | refine z_p (kk := ?_) | refine z_y (kk := ?_) | refine z_l (kk := ?_)))
      by_cases hle : ns.length ≤ s0
      · have hl0 := hlast hle
        (repeat (first | with_reducible refine Ops.nil ?_ | refine z_p (kk := ?_) | refine z_a (kk := ?_) | refine z_y (kk := ?_) | refine z_l (kk := ?_) | refine z_K (kk := fun _ => ?_) | refine z_h (kk := ?_)))
        rw [hl0]
        skip
        exact W.endl ⟨_, ⟨rfl, rfl⟩, (by repeat (first | exact trivial | refine And.intro rfl ?_))⟩
      · (repeat (first | with_reducible refine Ops.nil ?_ | refine z_p (kk := ?_) | refine z_y (kk := ?_) | refine z_n (kk := ?_) | refine z_g (kk := ?_)))
        exact W.endl ⟨_, ⟨rfl, rfl⟩, (by repeat (first | exact trivial | refine And.intro rfl ?_))⟩
    rintro ρ w3' ⟨rfl, rfl⟩
    clear hlast hne0 hB hN
    skip
    refine W.condF rfl (by first | rfl | assumption | (simp only [bnf] <;> omega) | (simp only [*, bnf]; done) | fail) ?_
    (repeat (first | with_reducible refine W.seq ?_ | with_reducible refine Ops.nil ?_ | with_reducible refine W.region ?_ | refine z_p (kk := ?_) | with_reducible refine W.skip ?_ | with_reducible refine W.block ?_))
    have hb33 : Below w3'.heap.size w3' w3' := Below.refl _ _
    have hsl1' := Sl.below hsl1 hb13
    have hsl2' := Sl.below hsl2 hb13
    refine W.loop (fun k ρ w4 => ∃ i : Nat, k = ns.length - i ∧ i ≤ ns.length ∧ ρ = [(7, .slice A1 (intL ns).length d1), (8, .slice A2 (os.map txO).length d2), (15, .int .i64 i)] ∧ Below w3'.heap.size w3' w4)
      ⟨_, _, ⟨0, rfl, Nat.zero_le _, rfl, hb33⟩, (by repeat (first | exact trivial | refine And.intro rfl ?_))⟩ ?_
    rintro k ρ w4 ⟨i, rfl, hi, rfl, hb34⟩
    have hb44 : Below w4.heap.size w4 w4 := Below.refl _ _
    have hT4 := hT.below (Below.via hb03 hb34)
    (repeat (first | with_reducible refine W.seq ?_ | with_reducible refine Ops.nil ?_ | with_reducible refine W.region ?_ | refine z_p (kk := ?_) | refine z_l (kk := ?_)))
    (first | refine W.condD rfl (fun hc => ?_) (fun hc => ?_) | refine W.condE rfl (fun hc => ?_) (fun hc => ?_) | refine W.condN rfl (fun hc => ?_) (fun hc => ?_) | refine W.cond rfl (fun hc => ?_) (fun hc => ?_))
    · have hin : i < ns.length := by omega
      have ho := hS.od i hin
      have hgi : (intL ns).getD i 0 = ((ns.getD i 0 : Nat) : Int) := intL_get _ _
      have hti : (os.map txO).getD i [] = txO (os.getD i .nil) := txL_get (by omega)
      rw [ho.1] at hti
      generalize hni : ns.getD i 0 = ni at *
      have hrd := rdA_lif (b := 2 + i) (m := ni) (by omega) (by omega) ho.2
      have hln := txO_le (b := 2 + i) (m := ni) (by omega) (by omega) ho.2
      (repeat (first | with_reducible refine W.seq ?_ | with_reducible refine Ops.nil ?_ | with_reducible refine W.region ?_ | refine z_p (kk := ?_) | with_reducible refine W.skip ?_ | with_reducible refine W.block ?_))
      refine W.cut (fun ρ w5 => ρ = [(7, .slice A1 (intL ns).length d1), (8, .slice A2 (os.map txO).length d2), (15, .int .i64 i)] ∧ Below w3'.heap.size w3' w5) ?_ ?_
      · by_cases hi0 : 0 < i
        · have ho1 := hS.od (i - 1) (by omega)
          obtain ⟨n1, n2, n3⟩ := hS.nxt (i - 1) (by omega)
          rw [show i - 1 + 1 = i by omega, hni] at n3
          have hgi1 : (intL ns).getD ((i : Int) - 1).toNat 0 = ((ns.getD (i - 1) 0 : Nat) : Int) := by rw [show ((i : Int) - 1).toNat = i - 1 by omega]; exact intL_get _ _
          have hti1 : (os.map txO).getD ((i : Int) - 1).toNat [] = txO (os.getD (i - 1) .nil) := by rw [show ((i : Int) - 1).toNat = i - 1 by omega]; exact txL_get (by omega)
          rw [ho1.1] at hti1
          generalize hn1i : ns.getD (i - 1) 0 = nj at *
          have hrd1 := rdA_lif (b := 2 + (i - 1)) (m := nj) (by omega) (by omega) ho1.2
          have hln1 := txO_le (b := 2 + (i - 1)) (m := nj) (by omega) (by omega) ho1.2
          have hdn := good_down (b := 2 + (i - 1)) (n := nj) (by omega) n1
          rw [← n3, show 2 + (i - 1) + 1 = 2 + i by omega] at hdn
          have hcr := cmpR_ok hrd hrd1
          rw [hdn] at hcr
          refine W.condT rfl (by first | rfl | assumption | (simp only [bnf] <;> omega) | (simp only [*, bnf]; done) | fail) ?_
          (repeat (first | with_reducible refine W.seq ?_))
          refine W.ordA 99 [(0, 1), (1, 1), (2, 1), (3, 2), (4, 1), (5, 1), (6, 1), (7, 1), (8, 2), (9, 2), (10, 1), (11, 1), (12, 1), (13, 1), (14, 1)] rfl (by kernel_rfl) rfl (by kernel_rfl) (fun _ _ _ h => h) ?_
          (repeat (first | refine x_p (kk := ?_) | refine x_a (kk := ?_) | refine x_TJ (kk := fun _ => ?_) | refine x_TL (kk := fun _ => ?_)))
          rw [hti, hti1]
          refine OrdA.call rfl rfl rfl rfl rfl rfl rfl (fun w' hw' => Calls.via hw' (Compare_c hln hln1)) ?_
          rw [hcr, show outI (.ok (-1) : Except Int Int) = -1 from rfl, show outE (.ok (-1) : Except Int Int) = 0 from rfl]
          (repeat (first | refine x_p (kk := ?_)))
          refine OrdA.nil (fun w5 hb45 => ?_)
          have hb35 := Below.via hb34 hb45
          (repeat (first | with_reducible refine W.seq ?_ | with_reducible refine Ops.nil ?_ | with_reducible refine W.region ?_ | refine z_p (kk := ?_) | refine z_a (kk := ?_) | refine z_y (kk := ?_) | refine z_K (kk := fun _ => ?_)))
          rw [hgi1]
          have hnj : (((nj : Nat) : Int) == 0) = false := by simp; omega
          rw [hnj]
          skip
          refine W.condF rfl (by simp) ?_
          (repeat (first | with_reducible refine W.skip ?_))
          exact W.endl ⟨_, ⟨rfl, hb35⟩, (by repeat (first | exact trivial | refine And.intro rfl ?_))⟩
        · refine W.condF rfl (by first | rfl | assumption | (simp only [bnf] <;> omega) | (simp only [*, bnf]; done) | fail) ?_
          (repeat (first | with_reducible refine W.skip ?_))
          exact W.endl ⟨_, ⟨rfl, hb34⟩, (by repeat (first | exact trivial | refine And.intro rfl ?_))⟩
      · rintro ρ w5 ⟨rfl, hb35⟩
        have hb55 : Below w5.heap.size w5 w5 := Below.refl _ _
        have hT5 := hT.below (Below.via hb03 hb35)
        (repeat (first | with_reducible refine W.seq ?_ | with_reducible refine Ops.nil ?_ | with_reducible refine W.region ?_ | refine z_p (kk := ?_) | refine z_I (kk := fun _ => ?_)))
        rw [hgi]
        by_cases hbig : ni > 1000000
        · refine W.condT rfl (by simp; omega) ?_
          (repeat (first | with_reducible refine Ops.nil ?_ | with_reducible refine W.region ?_ | refine z_p (kk := ?_) | refine z_a (kk := ?_) | refine W.exit rfl ?_))
          exact W.endl ⟨_, _, ⟨⟨i + 1, rfl, by omega, rfl, hb35⟩, by omega⟩, (by repeat (first | exact trivial | refine And.intro rfl ?_))⟩
        · refine W.condF rfl (by simp; omega) ?_
          have hbr : bumR (ni : Int) ((2 + i : Nat) : Int) = if bmp (2 + i) ni ≤ 1152921504606846976 ∧ bigT (lif (2 + i) ni) = false then .ok (bmp (2 + i) ni, lif (2 + i) ni) else .error 5 := by
            unfold bumR
            rw [if_pos (by omega), Int.toNat_natCast, Int.toNat_natCast]
          (repeat (first | with_reducible refine W.seq ?_ | with_reducible refine W.region ?_ | refine z_p (kk := ?_) | refine z_a (kk := ?_) | with_reducible refine W.skip ?_ | refine z_I (kk := fun _ => ?_)))
          rw [hgi, show (2 : Int) + (i : Int) = ((2 + i : Nat) : Int) by omega]
          refine Ops.call rfl rfl rfl rfl rfl (Bumped_c hT5) (fun r w6 hR => ?_)
          obtain ⟨rfl, hb56⟩ := hR
          have hb36 := Below.via hb35 hb56
          rw [hbr]
          have hfin : ∀ ρ, Sub [(7, .slice A1 (intL ns).length d1), (8, .slice A2 (os.map txO).length d2), (15, .int .i64 i)] ρ → True := fun _ _ => trivial
          by_cases hok : bmp (2 + i) ni ≤ 1152921504606846976
          · rw [if_pos ⟨hok, ho.2⟩, show (outN (.ok (bmp (2 + i) ni, lif (2 + i) ni))).1 = (bmp (2 + i) ni : Int) from rfl, show (outN (.ok (bmp (2 + i) ni, lif (2 + i) ni))).2 = txO (lif (2 + i) ni) from rfl, show outE (.ok (bmp (2 + i) ni, lif (2 + i) ni) : Except Int (Nat × Od)) = 0 from rfl]
            (repeat (first | with_reducible refine W.seq ?_ | with_reducible refine Ops.nil ?_ | with_reducible refine W.region ?_ | refine z_p (kk := ?_) | refine z_y (kk := ?_) | refine z_TJ (kk := fun _ => ?_) | refine z_ev (EV.sne rfl rfl rfl rfl) (kk := ?_)))
            have hd : decide (txO (lif (2 + i) ni) = txO (lif (2 + i) ni)) = true := by simp
            rw [hti, hd]
            by_cases hi1 : i + 1 < ns.length
            · obtain ⟨n1, n2, n3⟩ := hS.nxt i hi1
              rw [hni] at n1 n2 n3
              have hle := le_bmp (b := 2 + i) (by omega) ni
              have hgi2 : (intL ns).getD ((i : Int) + 1).toNat 0 = ((bmp (2 + i) ni : Nat) : Int) - 1 := by rw [show ((i : Int) + 1).toNat = i + 1 by omega, intL_get, n3]; omega
              (repeat (first | with_reducible refine Ops.nil ?_ | refine z_p (kk := ?_) | refine z_a (kk := ?_) | refine z_y (kk := ?_) | refine z_n (kk := ?_) | refine z_l (kk := ?_) | refine z_K (kk := fun _ => ?_) | refine z_h (kk := ?_)))
              rw [hgi2]
              have hd2 : (((bmp (2 + i) ni : Nat) : Int) - 1 != ((bmp (2 + i) ni : Nat) : Int) - 1) = false := by simp
              rw [hd2]
              skip
              refine W.condF rfl (by simp) ?_
              (repeat (first | with_reducible refine Ops.nil ?_ | with_reducible refine W.region ?_ | refine z_p (kk := ?_) | refine z_a (kk := ?_) | with_reducible refine W.skip ?_ | with_reducible refine W.endb ?_))
              exact W.endl ⟨_, _, ⟨⟨i + 1, rfl, by omega, rfl, hb36⟩, by omega⟩, (by repeat (first | exact trivial | refine And.intro rfl ?_))⟩
            · (repeat (first | with_reducible refine Ops.nil ?_ | refine z_p (kk := ?_) | refine z_a (kk := ?_) | refine z_y (kk := ?_) | refine z_n (kk := ?_) | refine z_l (kk := ?_) | refine z_g (kk := ?_)))
              refine W.condF rfl (by simp) ?_
              (repeat (first | with_reducible refine Ops.nil ?_ | with_reducible refine W.region ?_ | refine z_p (kk := ?_) | refine z_a (kk := ?_) | with_reducible refine W.skip ?_ | with_reducible refine W.endb ?_))
              exact W.endl ⟨_, _, ⟨⟨i + 1, rfl, by omega, rfl, hb36⟩, by omega⟩, (by repeat (first | exact trivial | refine And.intro rfl ?_))⟩
          · rw [if_neg (fun h => hok h.1), show (outN (.error 5)).1 = 0 from rfl, show (outN (.error 5)).2 = [] from rfl, show outE (.error 5 : Except Int (Nat × Od)) = 5 from rfl]
            by_cases hi1 : i + 1 < ns.length
            · obtain ⟨n1, n2, n3⟩ := hS.nxt i hi1
              rw [hni] at n1 n2 n3
              have hgi2 : (intL ns).getD ((i : Int) + 1).toNat 0 = 1152921504606846976 := by rw [show ((i : Int) + 1).toNat = i + 1 by omega, intL_get, n3]; omega
              (repeat (first | with_reducible refine W.seq ?_ | with_reducible refine Ops.nil ?_ | with_reducible refine W.region ?_ | refine z_p (kk := ?_) | refine z_a (kk := ?_) | refine z_y (kk := ?_) | refine z_n (kk := ?_) | refine z_u (kk := ?_) | refine z_l (kk := ?_) | refine z_K (kk := fun _ => ?_) | refine z_h (kk := ?_)))
              rw [hgi2]
              skip
              refine W.condF rfl (by simp) ?_
              (repeat (first | with_reducible refine Ops.nil ?_ | with_reducible refine W.region ?_ | refine z_p (kk := ?_) | refine z_a (kk := ?_) | with_reducible refine W.skip ?_ | with_reducible refine W.endb ?_))
              exact W.endl ⟨_, _, ⟨⟨i + 1, rfl, by omega, rfl, hb36⟩, by omega⟩, (by repeat (first | exact trivial | refine And.intro rfl ?_))⟩
            · (repeat (first | with_reducible refine W.seq ?_ | with_reducible refine Ops.nil ?_ | with_reducible refine W.region ?_ | refine z_p (kk := ?_) | refine z_a (kk := ?_) | refine z_y (kk := ?_) | refine z_n (kk := ?_) | refine z_u (kk := ?_) | refine z_l (kk := ?_) | refine z_g (kk := ?_)))
              refine W.condF rfl (by simp) ?_
              (repeat (first | with_reducible refine Ops.nil ?_ | with_reducible refine W.region ?_ | refine z_p (kk := ?_) | refine z_a (kk := ?_) | with_reducible refine W.skip ?_ | with_reducible refine W.endb ?_))
              exact W.endl ⟨_, _, ⟨⟨i + 1, rfl, by omega, rfl, hb36⟩, by omega⟩, (by repeat (first | exact trivial | refine And.intro rfl ?_))⟩
    · (repeat (first | with_reducible refine W.seq ?_ | with_reducible refine W.region ?_ | refine W.exit rfl ?_))
      refine Ops.call rfl rfl rfl rfl rfl (awake_c hT4) (fun r w5 hR => ?_)
      obtain ⟨rfl, hb45⟩ := hR
      (repeat (first | with_reducible refine Ops.nil ?_ | refine z_p (kk := ?_)))
      exact W.fret rfl ⟨rfl, Below.via hb03 (Below.via hb34 hb45)⟩
end Go.Proofs.YtcmjlmnfdncajaaGreatDoor
