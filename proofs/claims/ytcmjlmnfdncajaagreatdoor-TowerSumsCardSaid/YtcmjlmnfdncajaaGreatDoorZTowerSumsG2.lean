/- A part of the walk: what this seat's statements share. -/
import Derived.Test.YtcmjlmnfdncajaaGreatDoorZTowerSumsG1
import Derived.Test.YtcmjlmnfdncajaaGreatDoorZG8
import Derived.Test.YtcmjlmnfdncajaaGreatDoorZG7
import Derived.Test.YtcmjlmnfdncajaaGreatDoorZG5
import Derived.Test.YtcmjlmnfdncajaaGreatDoorZG4
import Derived.Test.YtcmjlmnfdncajaaGreatDoorZG9
set_option linter.unusedVariables false
set_option linter.unusedSimpArgs false
set_option linter.unusedSectionVars false
namespace Go.Proofs.YtcmjlmnfdncajaaGreatDoor.VW
open Go Go.RowKit
section
variable {P : Program} [hT : Tab P] {n : Nat} {ρ : E} {w : World}
omit hT in
theorem EV.sub8 {o : Oper} {u v : Nat} {t t' : Nat} {x y : Operand} (ho : o.op = .binOp .sub t x y t') (hx : ev ρ x = some (.int .u8 (u : Int))) (hy : ev ρ y = some (.int .u8 (v : Int))) (hv : v ≤ u) (hu : u < 256) : EV P n ρ w o (.int .u8 ((u - v : Nat) : Int)) := by
  refine EV.bw ho hx hy ?_
  have h2 : IntKind.u8.wrap ((u : Int) - (v : Int)) = ((u - v : Nat) : Int) := by
    have : ((u : Int) - (v : Int)) % 256 = ((u - v : Nat) : Int) := by omega
    simp [IntKind.wrap, IntKind.bits, IntKind.signed, this]
  simp only [VW.bw, h2]
end
end Go.Proofs.YtcmjlmnfdncajaaGreatDoor.VW
namespace Go.Proofs.YtcmjlmnfdncajaaGreatDoor
open Go Go.RowKit Go.Proofs.YtcmjlmnfdncajaaGreatDoor.VW Go.Proofs.YtcmjlmnfdncajaaGreatDoor.TW
attribute [local irreducible] W Ops OrdA VW.Ord OrdX Wi OpsI OrdF
/-- What the reference's reader answers. -/
def RdOut (n : Nat) (s : List UInt8) (i : Nat) (w : World) (r : Value) (w' : World) : Prop :=
  (∃ o j v, r = .tuple #[v, .int .i64 ((j : Nat) : Int)] ∧ rdE (fun s => rdP n s none) (s.drop i) = some (o, s.drop j) ∧ i < j ∧ j ≤ s.length ∧ szO o + i ≤ j ∧ OM (fun k => k < w.heap.size) w' v o) ∨ (∃ v, r = .tuple #[v, .int .i64 (-1)] ∧ rdE (fun s => rdP n s none) (s.drop i) = none)
set_option maxHeartbeats 16000000 in
theorem rread_c : ∀ (n : Nat) {w : World} {s : List UInt8} {i : Nat}, s.length ≤ 1000 → i ≤ s.length → (s.drop i).length < n →
    Calls Tryz.prog 78 #[S s, .int .i64 (i : Int)] w (Ret fun r w' => RdOut n s i w r w' ∧ Below w.heap.size w w') := by
  intro n
  induction n using Nat.strongRecOn with
  | _ n ih =>
  intro w s i hs hi hn
  rw [List.length_drop] at hn
  refine calls_W (vs := [_, _]) Tryz.func78 rfl (by kernel_rfl) rfl ?_
  have hb00 : Below w.heap.size w w := Below.refl _ _
  refine W.seq ?_
  refine W.cut (fun ρ w' => ρ = [(0, S s), (1, .int .i64 (i : Int))] ∧ w' = w) ?_ ?_
  · (repeat (first | with_reducible refine Ops.nil ?_ | with_reducible refine W.region ?_ | refine z_p (kk := ?_)))
    exact W.endl ⟨_, ⟨rfl, rfl⟩, (by repeat (first | exact trivial | refine And.intro rfl ?_))⟩
  rintro ρ w' ⟨rfl, rfl⟩
  refine W.seq ?_
  refine W.cut (fun ρ w'' => ρ = [(0, S s), (1, .int .i64 (i : Int))] ∧ w'' = w' ∧ (i < s.length → (s.getD i 0).toNat ≠ 48)) ?_ ?_
  · by_cases h1 : i < s.length
    · have hd1 : decide ((i : Int) < (s.length : Int)) = true := decide_eq_true (by omega)
      by_cases h2 : (s.getD i 0).toNat = 48
      · (repeat (first | with_reducible refine W.seq ?_ | with_reducible refine Ops.nil ?_ | with_reducible refine W.region ?_ | refine z_p (kk := ?_) | refine z_y (kk := ?_) | refine z_ev (EV.slen rfl rfl rfl) (kk := ?_) | refine z_ev (EV.sidx rfl rfl rfl rfl (by omega)) (kk := ?_) | refine z_h (kk := ?_)))
        refine W.condT rfl (by rw [h2]; rfl) ?_
        (repeat (first | with_reducible refine W.seq ?_ | with_reducible refine Ops.nil ?_ | with_reducible refine W.region ?_ | refine z_p (kk := ?_) | refine z_a (kk := ?_)))
        exact W.fret rfl ⟨.inl ⟨.nil, i + 1, _, rfl, rdE_zero h1 h2, by omega, by omega, by simp only [szO]; omega, OM.nil⟩, hb00⟩
      · have h2' := h2
        have hd2 : (((s.getD i 0).toNat : Int) == 48) = false := by rw [beq_eq_false_iff_ne]; omega
        (repeat (first | with_reducible refine W.seq ?_ | with_reducible refine Ops.nil ?_ | with_reducible refine W.region ?_ | refine z_p (kk := ?_) | refine z_y (kk := ?_) | refine z_ev (EV.slen rfl rfl rfl) (kk := ?_) | refine z_ev (EV.sidx rfl rfl rfl rfl (by omega)) (kk := ?_) | refine z_h (kk := ?_)))
        refine W.condF rfl (by first | assumption | (simp; done) | (simp; omega)) ?_
        (repeat (first | with_reducible refine W.skip ?_))
        exact W.endl ⟨_, ⟨rfl, rfl, fun _ => h2'⟩, (by repeat (first | exact trivial | refine And.intro rfl ?_))⟩
    · have hd1 : decide ((i : Int) < (s.length : Int)) = false := decide_eq_false (by omega)
      (repeat (first | with_reducible refine W.seq ?_ | with_reducible refine Ops.nil ?_ | with_reducible refine W.region ?_ | refine z_p (kk := ?_) | refine z_n (kk := ?_) | refine z_ev (EV.slen rfl rfl rfl) (kk := ?_) | refine z_g (kk := ?_)))
      refine W.condF rfl (by first | rfl | (simp; done) | (simp; omega)) ?_
      (repeat (first | with_reducible refine W.skip ?_))
      exact W.endl ⟨_, ⟨rfl, rfl, fun h => absurd h h1⟩, (by repeat (first | exact trivial | refine And.intro rfl ?_))⟩
  rintro ρ w ⟨rfl, rfl, h48⟩
  have hrd : rdE (fun s => rdP n s none) (s.drop i) = rdP n (s.drop i) none := rdE_else (f := fun s => rdP n s none) h48
  unfold RdOut
  rw [hrd]
  clear hrd
  (repeat (first | with_reducible refine W.seq ?_ | with_reducible refine Ops.nil ?_ | with_reducible refine W.region ?_ | refine z_p (kk := ?_) | with_reducible refine W.block ?_))
  refine W.loop (fun m ρ w1 => ∃ (k m1 : Nat) (acc : Od) (l : List (Value × Nat)) (ov : Value), m = s.length + 1 - k ∧ ρ = [(0, S s), (1, .int .i64 (k : Int)), (6, ov)] ∧ i ≤ k ∧ k ≤ s.length ∧ Below w.heap.size w w1 ∧
      PR w.heap.size w1 ov l ∧ OA (fun j => j < w.heap.size ∨ ov.ownBlock = some j) w1 acc l ∧ szO acc + i ≤ k ∧ s.length - k < m1 ∧ m1 ≤ n ∧ rdP n (s.drop i) none = (rdP m1 (s.drop k) (lastE acc)).map (fun q => (appO acc q.1, q.2)))
    ⟨_, _, ⟨i, n, .nil, [], _, rfl, rfl, Nat.le_refl _, hi, hb00, PR.nil (Nat.le_refl _), rfl, by simp only [szO]; omega, hn, Nat.le_refl _, by show rdP n (s.drop i) none = (rdP n (s.drop i) none).map _; cases rdP n (s.drop i) none <;> rfl⟩, (by repeat (first | exact trivial | refine And.intro rfl ?_))⟩ ?_
  rintro m ρ w1 ⟨k, m1, acc, l, ov, rfl, rfl, hik, hk, hb1, hP, hA, hsz, hm1, hm1n, hres⟩
  obtain ⟨m', rfl⟩ : ∃ m', m1 = m' + 1 := ⟨m1 - 1, by omega⟩
  have hlen := hA.len
  have hlz := len_le_sz acc
  have hP0 := hP.1
  obtain ⟨Ao, co, rfl⟩ := hP.2.sh
  have hnone : (∀ r t, ¬ rdP (m' + 1) (s.drop k) (lastE acc) = some (r, t)) → rdP n (s.drop i) none = none := fun h1 => by
    rw [hres]
    cases hx : rdP (m' + 1) (s.drop k) (lastE acc) with
    | none => rfl
    | some u => exact absurd hx (h1 u.1 u.2)
  by_cases h3 : k + 3 ≤ s.length
  rotate_left
  · have hp1 : pre sW (s.drop k) = none := pre_short (p := sW) (show s.length < k + 3 by omega) hk
    have hno := hnone (fun r t h => by
      obtain ⟨t1, e, t2, t3, c, t4, q1, _⟩ := rdP_inv h
      rw [hp1] at q1; simp at q1)
    (repeat (first | with_reducible refine W.seq ?_ | with_reducible refine Ops.nil ?_ | with_reducible refine W.region ?_ | refine z_p (kk := ?_) | refine z_a (kk := ?_) | refine z_n (kk := ?_) | with_reducible refine W.block ?_ | refine z_ev (EV.slen rfl rfl rfl) (kk := ?_) | refine z_g (kk := ?_)))
    refine W.condT rfl (by first | (simp; done) | (simp; omega)) ?_
    (repeat (first | with_reducible refine W.seq ?_ | with_reducible refine Ops.nil ?_ | with_reducible refine W.region ?_ | refine z_p (kk := ?_)))
    exact W.fret rfl ⟨.inr ⟨_, rfl, hno⟩, hb1⟩
  have hd3 : decide ((k : Int) + 3 > (s.length : Int)) = false := decide_eq_false (by omega)
  have hpre1 := pre_sub (p := sW) (s := s) (i := k) 3 rfl
  by_cases h4 : (s.take (k + 3)).drop k = sW
  rotate_left
  · rw [if_neg h4] at hpre1
    have hno := hnone (fun r t h => by
      obtain ⟨t1, e, t2, t3, c, t4, q1, _⟩ := rdP_inv h
      rw [hpre1] at q1; simp at q1)
    have h4' : decide ((s.take (k + 3)).drop k = [119, 94, 40]) = false := decide_eq_false h4
    (repeat (first | with_reducible refine W.seq ?_ | with_reducible refine Ops.nil ?_ | with_reducible refine W.region ?_ | refine z_p (kk := ?_) | refine z_a (kk := ?_) | refine z_y (kk := ?_) | with_reducible refine W.block ?_ | refine z_ev (EV.slen rfl rfl rfl) (kk := ?_) | refine z_ev (EV.sne rfl rfl rfl rfl) (kk := ?_) | refine z_ev (EV.ssub rfl rfl rfl rfl rfl (by omega) (by omega)) (kk := ?_) | refine z_h (kk := ?_)))
    refine W.condT rfl (by first | rfl | assumption | (simp [h4']; done)) ?_
    (repeat (first | with_reducible refine W.seq ?_ | with_reducible refine Ops.nil ?_ | with_reducible refine W.region ?_ | refine z_p (kk := ?_)))
    exact W.fret rfl ⟨.inr ⟨_, rfl, hno⟩, hb1⟩
  rw [if_pos h4] at hpre1
  have h4' : decide ((s.take (k + 3)).drop k = [119, 94, 40]) = true := decide_eq_true h4
  (repeat (first | with_reducible refine W.seq ?_ | with_reducible refine Ops.nil ?_ | with_reducible refine W.region ?_ | refine z_p (kk := ?_) | refine z_a (kk := ?_) | refine z_y (kk := ?_) | with_reducible refine W.block ?_ | refine z_ev (EV.slen rfl rfl rfl) (kk := ?_) | refine z_ev (EV.sne rfl rfl rfl rfl) (kk := ?_) | refine z_ev (EV.ssub rfl rfl rfl rfl rfl (by omega) (by omega)) (kk := ?_) | refine z_h (kk := ?_)))
  refine W.condF rfl (by first | rfl | assumption | (simp [h4']; done)) ?_
  (repeat (first | with_reducible refine W.seq ?_ | with_reducible refine W.region ?_ | refine z_p (kk := ?_) | refine z_a (kk := ?_) | with_reducible refine W.skip ?_))
  rw [show (k : Int) + 3 = ((k + 3 : Nat) : Int) by omega]
  refine Ops.call rfl rfl rfl rfl rfl (ih m' (by omega) (i := k + 3) hs h3 (by rw [List.length_drop]; omega)) (fun r w2 hR => ?_)
  obtain ⟨hor, hb2⟩ := hR
  have hb02 := Below.via hb1 hb2
  rcases hor with ⟨e, j, ve, rfl, hE, hkj, hjs, hsze, hM2⟩ | ⟨v, rfl, hE⟩
  rotate_left
  · have hno := hnone (fun r t h => by
      obtain ⟨t1, e, t2, t3, c, t4, q1, q2, _⟩ := rdP_inv h
      rw [hpre1] at q1
      simp only [Option.some.injEq] at q1
      subst q1
      rw [hE] at q2; simp at q2)
    (repeat (first | with_reducible refine W.seq ?_ | with_reducible refine Ops.nil ?_ | with_reducible refine W.region ?_ | refine z_p (kk := ?_) | refine z_n (kk := ?_)))
    refine W.condT rfl (by first | rfl | (simp; done)) ?_
    (repeat (first | with_reducible refine W.seq ?_ | with_reducible refine Ops.nil ?_ | with_reducible refine W.region ?_ | refine z_p (kk := ?_)))
    exact W.fret rfl ⟨.inr ⟨_, rfl, hno⟩, hb02⟩
  have hdj : decide ((j : Int) < 0) = false := decide_eq_false (by omega)
  by_cases h5 : j + 2 ≤ s.length
  rotate_left
  · have hp2 : pre sM (s.drop j) = none := pre_short (p := sM) (show s.length < j + 2 by omega) hjs
    have hno := hnone (fun r t h => by
      obtain ⟨t1, e, t2, t3, c, t4, q1, q2, q3, _⟩ := rdP_inv h
      rw [hpre1] at q1
      simp only [Option.some.injEq] at q1
      subst q1
      rw [hE] at q2
      simp only [Option.some.injEq, Prod.mk.injEq] at q2
      obtain ⟨rfl, rfl⟩ := q2
      rw [hp2] at q3; simp at q3)
    (repeat (first | with_reducible refine W.seq ?_ | with_reducible refine Ops.nil ?_ | with_reducible refine W.region ?_ | refine z_p (kk := ?_) | refine z_a (kk := ?_) | refine z_y (kk := ?_) | refine z_n (kk := ?_) | refine z_ev (EV.slen rfl rfl rfl) (kk := ?_) | refine z_g (kk := ?_)))
    refine W.condT rfl (by first | (simp; done) | (simp; omega)) ?_
    (repeat (first | with_reducible refine W.seq ?_ | with_reducible refine Ops.nil ?_ | with_reducible refine W.region ?_ | refine z_p (kk := ?_)))
    exact W.fret rfl ⟨.inr ⟨_, rfl, hno⟩, hb02⟩
  have hd5 : decide ((j : Int) + 2 > (s.length : Int)) = false := decide_eq_false (by omega)
  have hpre2 := pre_sub (p := sM) (s := s) (i := j) 2 rfl
  by_cases h6 : (s.take (j + 2)).drop j = sM
  rotate_left
  · rw [if_neg h6] at hpre2
    have hno := hnone (fun r t h => by
      obtain ⟨t1, e, t2, t3, c, t4, q1, q2, q3, _⟩ := rdP_inv h
      rw [hpre1] at q1
      simp only [Option.some.injEq] at q1
      subst q1
      rw [hE] at q2
      simp only [Option.some.injEq, Prod.mk.injEq] at q2
      obtain ⟨rfl, rfl⟩ := q2
      rw [hpre2] at q3; simp at q3)
    have h6' : decide ((s.take (j + 2)).drop j = [41, 42]) = false := decide_eq_false h6
    (repeat (first | with_reducible refine W.seq ?_ | with_reducible refine Ops.nil ?_ | with_reducible refine W.region ?_ | refine z_p (kk := ?_) | refine z_a (kk := ?_) | refine z_y (kk := ?_) | refine z_ev (EV.slen rfl rfl rfl) (kk := ?_) | refine z_ev (EV.sne rfl rfl rfl rfl) (kk := ?_) | refine z_ev (EV.ssub rfl rfl rfl rfl rfl (by omega) (by omega)) (kk := ?_) | refine z_h (kk := ?_)))
    refine W.condT rfl (by first | rfl | assumption | (simp [h6']; done)) ?_
    (repeat (first | with_reducible refine W.seq ?_ | with_reducible refine Ops.nil ?_ | with_reducible refine W.region ?_ | refine z_p (kk := ?_)))
    exact W.fret rfl ⟨.inr ⟨_, rfl, hno⟩, hb02⟩
  rw [if_pos h6] at hpre2
  have h6' : decide ((s.take (j + 2)).drop j = [41, 42]) = true := decide_eq_true h6
  (repeat (first | with_reducible refine W.seq ?_ | with_reducible refine Ops.nil ?_ | with_reducible refine W.region ?_ | refine z_p (kk := ?_) | refine z_a (kk := ?_) | refine z_y (kk := ?_) | refine z_ev (EV.slen rfl rfl rfl) (kk := ?_) | refine z_ev (EV.sne rfl rfl rfl rfl) (kk := ?_) | refine z_ev (EV.ssub rfl rfl rfl rfl rfl (by omega) (by omega)) (kk := ?_) | refine z_h (kk := ?_)))
  refine W.condF rfl (by first | rfl | assumption | (simp [h6']; done)) ?_
  refine W.skip ?_
  refine W.seq ?_
  refine W.cut (fun ρ w' => ρ = [(0, S s), (1, .int .i64 ((j + 2 : Nat) : Int)), (6, .slice Ao l.length co), (7, ve)] ∧ w' = w2) ?_ ?_
  · (repeat (first | with_reducible refine Ops.nil ?_ | with_reducible refine W.region ?_ | refine z_p (kk := ?_) | refine z_a (kk := ?_)))
    exact W.endl ⟨_, ⟨rfl, rfl⟩, (by repeat (first | exact trivial | refine And.intro rfl ?_))⟩
  rintro ρ w2' ⟨rfl, rfl⟩
  refine W.seq ?_
  refine W.cut (fun ρ w' => ρ = [(0, S s), (1, .int .i64 ((j + 2 : Nat) : Int)), (6, .slice Ao l.length co), (7, ve), (9, .int .i64 0)] ∧ w' = w2') ?_ ?_
  · (repeat (first | with_reducible refine Ops.nil ?_ | with_reducible refine W.region ?_ | refine z_p (kk := ?_)))
    exact W.endl ⟨_, ⟨rfl, rfl⟩, (by repeat (first | exact trivial | refine And.intro rfl ?_))⟩
  rintro ρ w2 ⟨rfl, rfl⟩
  refine W.seq ?_
  refine W.cut (fun ρ w' => ∃ (q c : Nat), ρ = [(0, S s), (1, .int .i64 (q : Int)), (6, .slice Ao l.length co), (7, ve), (9, .int .i64 (c : Int))] ∧ w' = w2 ∧ digL 0 (s.drop (j + 2)) = (c, s.drop q) ∧ j + 2 ≤ q ∧ q ≤ s.length ∧ c ≤ 10009) ?_ ?_
  · (repeat (first | with_reducible refine W.block ?_))
    refine W.loop (fun m ρ w3 => ∃ (q c : Nat), m = s.length - q ∧ ρ = [(0, S s), (1, .int .i64 (q : Int)), (6, .slice Ao l.length co), (7, ve), (9, .int .i64 (c : Int))] ∧ w3 = w2 ∧ digL 0 (s.drop (j + 2)) = digL c (s.drop q) ∧ j + 2 ≤ q ∧ q ≤ s.length ∧ c ≤ 10009)
      ⟨_, _, ⟨j + 2, 0, rfl, rfl, rfl, rfl, Nat.le_refl _, h5, by omega⟩, (by repeat (first | exact trivial | refine And.intro rfl ?_))⟩ ?_
    rintro m ρ w3 ⟨q, c, rfl, rfl, rfl, hdig, hjq, hqs, hc⟩
    by_cases hgo : q < s.length ∧ 48 ≤ (s.getD q 0).toNat ∧ (s.getD q 0).toNat ≤ 57 ∧ c ≤ 1000 ∧ (0 < c ∨ 48 < (s.getD q 0).toNat)
    · obtain ⟨g1, g2, g3, g4, g5⟩ := hgo
      rw [dig_go g1 g2 g3 g4 g5] at hdig
      generalize hx : (s.getD q 0).toNat = x at *
      have e1 : decide ((q : Int) < (s.length : Int)) = true := decide_eq_true (by omega)
      have e2 : decide ((x : Int) ≥ 48) = true := decide_eq_true (by omega)
      have e3 : decide ((x : Int) ≤ 57) = true := decide_eq_true (by omega)
      have e4 : decide ((c : Int) ≤ 1000) = true := decide_eq_true (by omega)
      by_cases hc0 : 0 < c
      all_goals (
        (repeat (first | with_reducible refine W.seq ?_ | with_reducible refine Ops.nil ?_ | with_reducible refine W.region ?_ | refine z_p (kk := ?_) | refine z_y (kk := ?_) | refine z_n (kk := ?_) | refine z_ev (EV.slen rfl rfl rfl) (kk := ?_) | refine z_ev (EV.sidx rfl rfl rfl rfl (by omega)) (kk := ?_) | refine z_g (kk := ?_) | refine z_h (kk := ?_)))
        rw [hx]
        skip
        try rw [hx]
        skip
        refine W.condT rfl (by first | rfl | assumption | (simp; done) | (simp; omega)) ?_
        (repeat (first | with_reducible refine W.seq ?_ | with_reducible refine W.region ?_ | refine z_p (kk := ?_) | refine z_a (kk := ?_) | with_reducible refine W.skip ?_ | with_reducible refine W.block ?_ | refine z_ev (EV.sidx rfl rfl rfl rfl (by omega)) (kk := ?_)))
        rw [hx]
        refine z_ev (EV.sub8 (v := 48) rfl rfl rfl (by omega) (by omega)) (kk := ?_)
        refine Ops.cv rfl rfl rfl rfl rfl rfl ?_
        rw [wrapN (by omega)]
        (repeat (first | with_reducible refine Ops.nil ?_ | with_reducible refine W.region ?_ | refine z_p (kk := ?_) | refine z_a (kk := ?_) | with_reducible refine W.endb ?_))
        rw [show 10 * (c : Int) + ((x - 48 : Nat) : Int) = ((10 * c + (x - 48) : Nat) : Int) by omega]
        exact W.endl ⟨_, _, ⟨⟨q + 1, 10 * c + (x - 48), rfl, rfl, rfl, hdig, by omega, by omega, by omega⟩, by omega⟩, (by repeat (first | exact trivial | refine And.intro rfl ?_))⟩)
    · rw [dig_stop hgo] at hdig
      by_cases g1 : q < s.length
      rotate_left
      · have e1 : decide ((q : Int) < (s.length : Int)) = false := decide_eq_false (by omega)
        (repeat (first | with_reducible refine W.seq ?_ | with_reducible refine Ops.nil ?_ | with_reducible refine W.region ?_ | refine z_p (kk := ?_) | refine z_n (kk := ?_) | refine z_u (kk := ?_) | refine z_ev (EV.slen rfl rfl rfl) (kk := ?_) | refine z_g (kk := ?_)))
        refine W.condF rfl (by first | rfl | assumption | (simp; done) | (simp; omega)) ?_
        (repeat (first | refine W.exit rfl ?_))
        exact W.endl ⟨_, ⟨q, c, rfl, rfl, hdig, hjq, hqs, hc⟩, (by repeat (first | exact trivial | refine And.intro rfl ?_))⟩
      have e1 : decide ((q : Int) < (s.length : Int)) = true := decide_eq_true (by omega)
      generalize hx : (s.getD q 0).toNat = x at *
      by_cases g2 : 48 ≤ x
      rotate_left
      · have e2 : decide ((x : Int) ≥ 48) = false := decide_eq_false (by omega)
        (repeat (first | with_reducible refine W.seq ?_ | with_reducible refine Ops.nil ?_ | with_reducible refine W.region ?_ | refine z_p (kk := ?_) | refine z_y (kk := ?_) | refine z_n (kk := ?_) | refine z_u (kk := ?_) | refine z_ev (EV.slen rfl rfl rfl) (kk := ?_) | refine z_ev (EV.sidx rfl rfl rfl rfl (by omega)) (kk := ?_) | refine z_g (kk := ?_) | refine z_h (kk := ?_)))
        rw [hx]
        skip
        refine W.condF rfl (by first | rfl | assumption | (simp; done) | (simp; omega)) ?_
        (repeat (first | refine W.exit rfl ?_))
        exact W.endl ⟨_, ⟨q, c, rfl, rfl, hdig, hjq, hqs, hc⟩, (by repeat (first | exact trivial | refine And.intro rfl ?_))⟩
      have e2 : decide ((x : Int) ≥ 48) = true := decide_eq_true (by omega)
      by_cases g3 : x ≤ 57
      rotate_left
      · have e3 : decide ((x : Int) ≤ 57) = false := decide_eq_false (by omega)
        (repeat (first | with_reducible refine W.seq ?_ | with_reducible refine Ops.nil ?_ | with_reducible refine W.region ?_ | refine z_p (kk := ?_) | refine z_y (kk := ?_) | refine z_n (kk := ?_) | refine z_u (kk := ?_) | refine z_ev (EV.slen rfl rfl rfl) (kk := ?_) | refine z_ev (EV.sidx rfl rfl rfl rfl (by omega)) (kk := ?_) | refine z_g (kk := ?_) | refine z_h (kk := ?_)))
        rw [hx]
        skip
        try rw [hx]
        skip
        refine W.condF rfl (by first | rfl | assumption | (simp; done) | (simp; omega)) ?_
        (repeat (first | refine W.exit rfl ?_))
        exact W.endl ⟨_, ⟨q, c, rfl, rfl, hdig, hjq, hqs, hc⟩, (by repeat (first | exact trivial | refine And.intro rfl ?_))⟩
      have e3 : decide ((x : Int) ≤ 57) = true := decide_eq_true (by omega)
      by_cases g4 : c ≤ 1000
      rotate_left
      · have e4 : decide ((c : Int) ≤ 1000) = false := decide_eq_false (by omega)
        (repeat (first | with_reducible refine W.seq ?_ | with_reducible refine Ops.nil ?_ | with_reducible refine W.region ?_ | refine z_p (kk := ?_) | refine z_y (kk := ?_) | refine z_n (kk := ?_) | refine z_u (kk := ?_) | refine z_ev (EV.slen rfl rfl rfl) (kk := ?_) | refine z_ev (EV.sidx rfl rfl rfl rfl (by omega)) (kk := ?_) | refine z_g (kk := ?_) | refine z_h (kk := ?_)))
        rw [hx]
        skip
        try rw [hx]
        skip
        refine W.condF rfl (by first | rfl | assumption | (simp; done) | (simp; omega)) ?_
        (repeat (first | refine W.exit rfl ?_))
        exact W.endl ⟨_, ⟨q, c, rfl, rfl, hdig, hjq, hqs, hc⟩, (by repeat (first | exact trivial | refine And.intro rfl ?_))⟩
      have e4 : decide ((c : Int) ≤ 1000) = true := decide_eq_true (by omega)
      have e5 : decide ((c : Int) > 0) = false := decide_eq_false (by omega)
      (repeat (first | with_reducible refine W.seq ?_ | with_reducible refine Ops.nil ?_ | with_reducible refine W.region ?_ | refine z_p (kk := ?_) | refine z_y (kk := ?_) | refine z_ev (EV.slen rfl rfl rfl) (kk := ?_) | refine z_ev (EV.sidx rfl rfl rfl rfl (by omega)) (kk := ?_) | refine z_h (kk := ?_)))
      rw [hx]
      skip
      try rw [hx]
      skip
      try rw [hx]
      skip
      refine W.condF rfl (by first | rfl | assumption | (simp; done) | (simp; omega)) ?_
      (repeat (first | refine W.exit rfl ?_))
      exact W.endl ⟨_, ⟨q, c, rfl, rfl, hdig, hjq, hqs, hc⟩, (by repeat (first | exact trivial | refine And.intro rfl ?_))⟩
  rintro ρ w2' ⟨q, c, rfl, rfl, hdig, hjq, hqs, hc⟩
  have hs1 := hb1.size
  have hrdN : rdN (s.drop (j + 2)) = if 1 ≤ c ∧ c ≤ 1000 then some (c, s.drop q) else none := by rw [rdN_dig, hdig]
  have hP2 := pr_kp hP (kpF hb2) (fun _ _ e => e)
  have hA2 := hA.kp (kpF hb2) (fun _ e => e.elim)
  have hown : ∀ i, (Value.slice Ao l.length co).ownBlock = some i → i < w1.heap.size := fun i h => (hP.2.own.lt i h).2
  have hM2' : OM (fun j => j < w.heap.size ∨ (Value.slice Ao l.length co).ownBlock = some j) w2' ve e := hM2.more (fun j h => .inl (by
    show j < w1.heap.size
    rcases h with h | h
    · omega
    · exact hown j h))
  have hR2 : R2 (fun i => i < w.heap.size) w2' (.slice Ao l.length co) l := pr_R2 hP2 (by omega) (fun i hi => by have := pr_ge hP2 i hi; omega)
  have hb22 : Below w2'.heap.size w2' w2' := Below.refl _ _
  refine W.seq ?_
  refine W.cut (fun ρ w' => ρ = [(0, S s), (1, .int .i64 (q : Int)), (6, .slice Ao l.length co), (7, ve), (9, .int .i64 (c : Int))] ∧ Below w2'.heap.size w2' w' ∧ 1 ≤ c ∧ c ≤ 1000 ∧ okL (lastE acc) e = true) ?_ ?_
  · by_cases hcr : 1 ≤ c ∧ c ≤ 1000
    rotate_left
    · rw [if_neg hcr] at hrdN
      have hno := hnone (fun r t h => by
        obtain ⟨t1, e, t2, t3, c, t4, q1, q2, q3, q4, _⟩ := rdP_inv h
        rw [hpre1] at q1
        simp only [Option.some.injEq] at q1
        subst q1
        rw [hE] at q2
        simp only [Option.some.injEq, Prod.mk.injEq] at q2
        obtain ⟨rfl, rfl⟩ := q2
        rw [hpre2] at q3
        simp only [Option.some.injEq] at q3
        subst q3
        rw [hrdN] at q4; simp at q4)
      by_cases hc1 : c < 1
      all_goals (
        (repeat (first | with_reducible refine W.seq ?_ | with_reducible refine Ops.nil ?_ | with_reducible refine W.region ?_ | refine z_p (kk := ?_) | refine z_y (kk := ?_) | refine z_n (kk := ?_) | refine z_u (kk := ?_) | refine z_g (kk := ?_) | refine z_h (kk := ?_)))
        refine W.condT rfl (by first | (simp; done) | (simp; omega)) ?_
        (repeat (first | with_reducible refine W.seq ?_ | with_reducible refine Ops.nil ?_ | with_reducible refine W.region ?_ | refine z_p (kk := ?_)))
        exact W.fret rfl ⟨.inr ⟨_, rfl, hno⟩, hb02⟩)
    · obtain ⟨hc1, hc2⟩ := hcr
      rw [if_pos ⟨hc1, hc2⟩] at hrdN
      have f1 : decide ((c : Int) < 1) = false := decide_eq_false (by omega)
      have f2 : decide ((c : Int) > 1000) = false := decide_eq_false (by omega)
      by_cases hz : l.length = 0
      · have hacc : acc = .nil := lenO_zero.1 (by omega)
        have hok : okL (lastE acc) e = true := by rw [hacc]; rfl
        (repeat (first | with_reducible refine W.seq ?_ | with_reducible refine Ops.nil ?_ | with_reducible refine W.region ?_ | refine z_p (kk := ?_) | refine z_y (kk := ?_) | refine z_n (kk := ?_) | refine z_l (kk := ?_) | refine z_g (kk := ?_) | refine z_h (kk := ?_)))
        refine W.condF rfl (by first | rfl | assumption | (simp; done) | (simp; omega)) ?_
        (repeat (first | with_reducible refine W.skip ?_))
        exact W.endl ⟨_, ⟨rfl, hb22, hc1, hc2, hok⟩, (by repeat (first | exact trivial | refine And.intro rfl ?_))⟩
      · have hacc : acc ≠ .nil := fun h => hz (by rw [hlen, h]; rfl)
        have hla := lastE_at hacc
        obtain ⟨a2, aM⟩ := hA2.at_ (i := lenO acc - 1) (by omega)
        have f3 : decide ((l.length : Int) > 0) = true := decide_eq_true (by omega)
        (repeat (first | with_reducible refine W.seq ?_ | with_reducible refine W.region ?_ | refine z_p (kk := ?_) | refine z_a (kk := ?_) | refine z_y (kk := ?_) | refine z_l (kk := ?_) | refine z_h (kk := ?_)))
        rw [show ((l.length : Nat) : Int) - 1 = ((lenO acc - 1 : Nat) : Int) by omega]
        (repeat (first | refine z_p (kk := ?_) | refine z_y (kk := ?_) | refine z_R0 (kk := fun _ _ => ?_)))
        refine Ops.call rfl rfl rfl rfl rfl (refCompare_c _ (Nat.le_refl _) aM hM2') (fun r w3 hR => ?_)
        obtain ⟨rfl, hb23⟩ := hR
        have hsw := cmp_swap (nthE acc (lenO acc - 1)) e
        by_cases hcm : cmpO (nthE acc (lenO acc - 1)) e ≤ 0
        · have hbad : okL (lastE acc) e = false := by rw [hla]; exact decide_eq_false (by omega)
          have hno := hnone (fun r t h => by
            obtain ⟨t1, e', t2, t3, c, t4, q1, q2, q3, q4, q5, _⟩ := rdP_inv h
            rw [hpre1] at q1
            simp only [Option.some.injEq] at q1
            subst q1
            rw [hE] at q2
            simp only [Option.some.injEq, Prod.mk.injEq] at q2
            obtain ⟨rfl, rfl⟩ := q2
            rw [hbad] at q5; simp at q5)
          (repeat (first | with_reducible refine Ops.nil ?_ | refine z_p (kk := ?_) | refine z_y (kk := ?_)))
          refine W.condT rfl (by first | rfl | assumption | (simp; done) | (simp; omega)) ?_
          (repeat (first | with_reducible refine W.seq ?_ | with_reducible refine Ops.nil ?_ | with_reducible refine W.region ?_ | refine z_p (kk := ?_)))
          exact W.fret rfl ⟨.inr ⟨_, rfl, hno⟩, Below.via hb02 hb23⟩
        · have hok : okL (lastE acc) e = true := by rw [hla]; exact decide_eq_true (by omega)
          (repeat (first | with_reducible refine Ops.nil ?_ | refine z_p (kk := ?_) | refine z_y (kk := ?_)))
          refine W.condF rfl (by first | rfl | assumption | (simp; done) | (simp; omega)) ?_
          (repeat (first | with_reducible refine W.skip ?_))
          exact W.endl ⟨_, ⟨rfl, hb23, hc1, hc2, hok⟩, (by repeat (first | exact trivial | refine And.intro rfl ?_))⟩
  rintro ρ w3 ⟨rfl, hb23, hc1, hc2, hok⟩
  rw [if_pos ⟨hc1, hc2⟩] at hrdN
  have hnext := rdP_eq (m := m') (s := s.drop k) (last := lastE acc) hpre1 hE hpre2 hrdN hok
  have hb03 := Below.via hb02 hb23
  have hP3 := pr_kp hP2 (kpF hb23) (fun _ _ e => e)
  have hA3 := hA2.kp (kpF hb23) (fun _ e => e.elim)
  have hM3 := hM2'.below hb23
  have hee := hM3.one
  have hsz4 : szO (snocO acc e c) = szO acc + (1 + szO e) := by unfold snocO; rw [szO_app]; simp only [szO]; omega
  (repeat (first | with_reducible refine W.seq ?_ | with_reducible refine W.region ?_ | refine z_p (kk := ?_)))
  refine Ops.bld2 rfl rfl rfl rfl rfl rfl rfl hee rfl ?_
  refine Ops.pushP (fa := pA) (fb := pB) (z := (ve, c)) rfl rfl rfl rfl rfl rfl rfl rfl rfl rfl rfl (fun _ => rfl) hee rfl hP3.2 (by omega) (fun lv' p w9 hO9 k9 hn9 => ?_)
  have hP9 := pr_put hP3 (tr_size hP3.1) hO9 k9.size
  have hmo : ∀ i, ((i < w.heap.size ∨ (Value.slice Ao l.length co).ownBlock = some i) ∨ lv'.ownBlock = some i) → (i < w.heap.size ∨ (Value.slice Ao l.length co).ownBlock = some i) ∨ w3.heap.size ≤ i := fun i h => by
    rcases h with h | h
    · exact .inl h
    · rcases hn9 i h with q | q
      · exact .inl (.inr q)
      · exact .inr q
  have hA9 := ((hA3.more hmo).kp k9 (fun i e => .inl (.inr e))).more (S' := fun i => i < w.heap.size ∨ lv'.ownBlock = some i) (fun i h => .inl (by rcases h with h | h; exact .inl (.inl h); exact .inr h))
  have hM9 := ((hM3.more hmo).kp k9 (fun i e => .inl (.inr e))).more (S' := fun i => i < w.heap.size ∨ lv'.ownBlock = some i) (fun i h => .inl (by rcases h with h | h; exact .inl (.inl h); exact .inr h))
  have hAs := OA_snoc (c := c) hM9 hA9
  have hb09 : Below w.heap.size w w9 := Below.put hb03 k9 (fun j hj => pr_ge hP3 j hj)
  have hfin : (q < s.length → (s.getD q 0).toNat ≠ 43) → (∃ o j v, Value.tuple #[lv', .int .i64 (q : Int)] = .tuple #[v, .int .i64 ((j : Nat) : Int)] ∧ rdP n (s.drop i) none = some (o, s.drop j) ∧ i < j ∧ j ≤ s.length ∧ szO o + i ≤ j ∧ OM (fun k => k < w.heap.size) w9 v o) := fun h => by
    rw [plus_no h] at hnext
    exact ⟨snocO acc e c, q, lv', rfl, by rw [hres, hnext]; rfl, by omega, hqs, by omega, ⟨_, pr_R2 hP9 (by simp; omega) (fun i hi => by have := pr_ge hP9 i hi; omega), hAs.more (fun i h => .inl (.inl h))⟩⟩
  by_cases hq : q = s.length
  · subst hq
    (repeat (first | with_reducible refine W.seq ?_ | with_reducible refine Ops.nil ?_ | with_reducible refine W.region ?_ | refine z_p (kk := ?_) | refine z_n (kk := ?_) | refine z_ev (EV.slen rfl rfl rfl) (kk := ?_) | refine z_g (kk := ?_)))
    refine W.condT rfl (by first | rfl | (simp; done)) ?_
    (repeat (first | with_reducible refine W.seq ?_ | with_reducible refine Ops.nil ?_ | with_reducible refine W.region ?_ | refine z_p (kk := ?_)))
    exact W.fret rfl ⟨.inl (hfin (fun h => by omega)), hb09⟩
  · have f4 : (((q : Nat) : Int) == ((s.length : Nat) : Int)) = false := by rw [beq_eq_false_iff_ne]; omega
    by_cases h43 : (s.getD q 0).toNat = 43
    · rw [plus_at (by omega) h43] at hnext
      have f5 : ((((s.getD q 0).toNat : Nat) : Int) != 43) = false := by rw [h43]; rfl
      (repeat (first | with_reducible refine W.seq ?_ | with_reducible refine Ops.nil ?_ | with_reducible refine W.region ?_ | refine z_p (kk := ?_) | refine z_y (kk := ?_) | refine z_ev (EV.slen rfl rfl rfl) (kk := ?_) | refine z_ev (EV.sidx rfl rfl rfl rfl (by omega)) (kk := ?_) | refine z_h (kk := ?_)))
      refine W.condF rfl (by first | rfl | assumption | (simp; done) | (simp; omega)) ?_
      (repeat (first | with_reducible refine Ops.nil ?_ | with_reducible refine W.region ?_ | refine z_p (kk := ?_) | refine z_a (kk := ?_) | with_reducible refine W.skip ?_ | with_reducible refine W.endb ?_))
      refine W.endl ⟨_, _, ⟨⟨q + 1, m', snocO acc e c, l ++ [(ve, c)], lv', rfl, rfl, by omega, by omega, hb09, hP9, hAs, by omega, by omega, by omega, ?_⟩, by omega⟩, (by repeat (first | exact trivial | refine And.intro rfl ?_))⟩
      replace hnext : rdP (m' + 1) (s.drop k) (lastE acc) = (rdP m' (s.drop (q + 1)) (some e)).map (fun q => (.cons e c q.1, q.2)) := hnext
      rw [hres, hnext, lastE_snoc]
      cases rdP m' (s.drop (q + 1)) (some e) with
      | none => rfl
      | some u => simp only [Option.map_some, appO_snoc]
    · have f5 : ((((s.getD q 0).toNat : Nat) : Int) != 43) = true := by rw [bne_iff_ne]; omega
      (repeat (first | with_reducible refine W.seq ?_ | with_reducible refine Ops.nil ?_ | with_reducible refine W.region ?_ | refine z_p (kk := ?_) | refine z_y (kk := ?_) | refine z_ev (EV.slen rfl rfl rfl) (kk := ?_) | refine z_ev (EV.sidx rfl rfl rfl rfl (by omega)) (kk := ?_) | refine z_h (kk := ?_)))
      refine W.condT rfl (by first | rfl | assumption | (simp; done) | (simp; omega)) ?_
      (repeat (first | with_reducible refine W.seq ?_ | with_reducible refine Ops.nil ?_ | with_reducible refine W.region ?_ | refine z_p (kk := ?_)))
      exact W.fret rfl ⟨.inl (hfin (fun h => h43)), hb09⟩
end Go.Proofs.YtcmjlmnfdncajaaGreatDoor
namespace Go.Proofs.YtcmjlmnfdncajaaGreatDoor.VW
open Go Go.RowKit
section
variable {P : Program} [hT : Tab P] {n : Nat} {ρ : E} {w : World}
omit hT in
theorem EV.max3 {o : Oper} {x y z : Operand} {ts : Array TypeId} {a b c : Int} (ho : o.op = .call { callee := .builtin .max, args := #[x, y, z], argTypes := ts }) (hx : ev ρ x = some (.int .i64 a)) (hy : ev ρ y = some (.int .i64 b)) (hz : ev ρ z = some (.int .i64 c)) : EV P n ρ w o (.int .i64 (Max.max (Max.max a b) c)) := by
  intro f hr
  have e : ∀ a b : Int, (if b > a then b else a) = Max.max a b := fun a b => by simp only [Int.max_def]; split <;> split <;> omega
  have e1 := e a b
  have e2 := e (Max.max a b) c
  simp [execOp, ho, resolve, hr.ev hx, hr.ev hy, hr.ev hz, invoke, builtin, Builtin.max_, Builtin.max2, ← e]
end
end Go.Proofs.YtcmjlmnfdncajaaGreatDoor.VW
namespace Go.Proofs.YtcmjlmnfdncajaaGreatDoor
open Go Go.RowKit Go.Proofs.YtcmjlmnfdncajaaGreatDoor.VW Go.Proofs.YtcmjlmnfdncajaaGreatDoor.TW
attribute [local irreducible] W Ops OrdA VW.Ord OrdX Wi OpsI OrdF
def shS (s : List UInt8) : List UInt8 := s.take (min s.length 1000)
theorem shS_len (s : List UInt8) : (shS s).length ≤ 1000 := by unfold shS; rw [List.length_take]; omega
theorem short_c {w : World} {s : List UInt8} : Calls Tryz.prog 23 #[S s] w (Ret fun r w' => r = S (shS s) ∧ w' = w) := by
  refine calls_W (vs := [_]) Tryz.func23 rfl (by kernel_rfl) rfl ?_
  have h1 : min s.length 1000 ≤ s.length := Nat.min_le_left _ _
  (repeat (first | with_reducible refine W.seq ?_ | with_reducible refine Ops.nil ?_ | with_reducible refine W.region ?_ | refine z_p (kk := ?_) | refine z_m (kk := ?_) | refine z_ev (EV.slen rfl rfl rfl) (kk := ?_)))
  rw [show min (s.length : Int) 1000 = ((min s.length 1000 : Nat) : Int) by omega]
  (repeat (first | with_reducible refine Ops.nil ?_ | refine z_p (kk := ?_) | refine z_ev (EV.sto rfl rfl rfl rfl (by omega)) (kk := ?_)))
  exact W.fret rfl ⟨rfl, rfl⟩
theorem rRead_c {w : World} {s : List UInt8} (hs : s.length ≤ 1000) : Calls Tryz.prog 26 #[S s] w (Ret fun r w' => ((∃ o v, rdA s = some o ∧ r = .tuple #[v, .bool true] ∧ OM (fun k => k < w.heap.size) w' v o) ∨ (∃ v, rdA s = none ∧ r = .tuple #[v, .bool false])) ∧ Below w.heap.size w w') := by
  have hdef : rdA s = match rdE (fun t => rdP (s.length + 1) t none) s with
    | some (o, []) => if szO o ≤ 60 then some o else none
    | _ => none := by
    generalize hq : rdE (fun t => rdP (s.length + 1) t none) s = q
    have h : rdO s = q := by
      rw [← hq]
      unfold rdO rdE
      split <;> rfl
    unfold rdA
    rw [h]
    cases q with
    | none => rfl
    | some q => obtain ⟨o, t⟩ := q; cases t <;> rfl
  refine calls_W (vs := [_]) Tryz.func26 rfl (by kernel_rfl) rfl ?_
  (repeat (first | with_reducible refine W.seq ?_ | with_reducible refine Ops.nil ?_ | with_reducible refine W.region ?_ | refine z_p (kk := ?_)))
  refine Ops.call rfl rfl rfl rfl rfl (rread_c (s.length + 1) (i := 0) hs (Nat.zero_le _) (by simp)) (fun r w1 hR => ?_)
  obtain ⟨hor, hb1⟩ := hR
  rcases hor with ⟨o, j, v, rfl, hE, h0j, hjs, hz, hM⟩ | ⟨v, rfl, hE⟩
  · rw [List.drop_zero] at hE
    rw [hE] at hdef
    by_cases hj : j = s.length
    · subst hj
      rw [List.drop_eq_nil_of_le (Nat.le_refl _)] at hdef
      simp only at hdef
      have f1 : (((s.length : Nat) : Int) != ((s.length : Nat) : Int)) = false := by simp
      (repeat (first | with_reducible refine W.seq ?_ | with_reducible refine Ops.nil ?_ | with_reducible refine W.region ?_ | refine z_p (kk := ?_) | refine z_y (kk := ?_) | refine z_ev (EV.slen rfl rfl rfl) (kk := ?_) | refine z_h (kk := ?_)))
      refine Ops.callS rfl rfl rfl rfl rfl (rSize_c _ (Nat.le_refl _) (by omega) hM) ?_
      by_cases h60 : szO o ≤ 60
      · rw [if_pos h60] at hdef
        (repeat (first | with_reducible refine Ops.nil ?_ | refine z_p (kk := ?_) | refine z_y (kk := ?_)))
        refine W.condF rfl (by first | rfl | assumption | (simp; done) | (simp; omega)) ?_
        (repeat (first | with_reducible refine W.seq ?_ | with_reducible refine Ops.nil ?_ | with_reducible refine W.region ?_ | refine z_p (kk := ?_) | with_reducible refine W.skip ?_))
        exact W.fret rfl ⟨.inl ⟨o, v, hdef, rfl, hM⟩, hb1⟩
      · rw [if_neg h60] at hdef
        (repeat (first | with_reducible refine Ops.nil ?_ | refine z_p (kk := ?_) | refine z_y (kk := ?_)))
        refine W.condT rfl (by first | rfl | assumption | (simp; done) | (simp; omega)) ?_
        (repeat (first | with_reducible refine W.seq ?_ | with_reducible refine Ops.nil ?_ | with_reducible refine W.region ?_ | refine z_p (kk := ?_)))
        exact W.fret rfl ⟨.inr ⟨_, hdef, rfl⟩, hb1⟩
    · have hne : s.drop j ≠ [] := fun e => by have := congrArg List.length e; simp at this; omega
      have hno : rdA s = none := by
        rw [hdef]
        cases hx : s.drop j with
        | nil => exact absurd hx hne
        | cons a t => rfl
      have f1 : (((j : Nat) : Int) != ((s.length : Nat) : Int)) = true := by rw [bne_iff_ne]; omega
      (repeat (first | with_reducible refine W.seq ?_ | with_reducible refine Ops.nil ?_ | with_reducible refine W.region ?_ | refine z_p (kk := ?_) | refine z_n (kk := ?_) | refine z_ev (EV.slen rfl rfl rfl) (kk := ?_) | refine z_g (kk := ?_)))
      refine W.condT rfl (by first | rfl | assumption | (simp; done) | (simp; omega)) ?_
      (repeat (first | with_reducible refine W.seq ?_ | with_reducible refine Ops.nil ?_ | with_reducible refine W.region ?_ | refine z_p (kk := ?_)))
      exact W.fret rfl ⟨.inr ⟨_, hno, rfl⟩, hb1⟩
  · rw [List.drop_zero] at hE
    rw [hE] at hdef
    have f1 : ((-1 : Int) != ((s.length : Nat) : Int)) = true := by rw [bne_iff_ne]; omega
    (repeat (first | with_reducible refine W.seq ?_ | with_reducible refine Ops.nil ?_ | with_reducible refine W.region ?_ | refine z_p (kk := ?_) | refine z_n (kk := ?_) | refine z_ev (EV.slen rfl rfl rfl) (kk := ?_)))
    refine W.condT rfl (by first | rfl | assumption | (simp; done) | (simp; omega)) ?_
    (repeat (first | with_reducible refine W.seq ?_ | with_reducible refine Ops.nil ?_ | with_reducible refine W.region ?_ | refine z_p (kk := ?_)))
    exact W.fret rfl ⟨.inr ⟨_, hdef, rfl⟩, hb1⟩
theorem rKind_c {S : Nat → Prop} {w : World} {v : Value} {o : Od} (hM : OM S w v o) : Calls Tryz.prog 27 #[v] w (Ret fun r w' => r = .int .i64 (kindO o : Nat) ∧ w' = w) := by
  obtain ⟨l, hR, hA⟩ := hM
  have hl := hA.len
  have hbd := hR.bd
  obtain ⟨A, c, rfl⟩ := hR.sh
  have hk := kind_len o
  have hbb : Below w.heap.size w w := Below.refl _ _
  refine calls_W (vs := [_]) Tryz.func27 rfl (by kernel_rfl) rfl ?_
  (repeat (first | with_reducible refine W.seq ?_ | with_reducible refine Ops.nil ?_ | with_reducible refine W.region ?_ | refine z_p (kk := ?_) | refine z_l (kk := ?_)))
  by_cases h0 : l.length = 0
  · refine W.condT rfl (by first | rfl | assumption | (simp only [bnf] <;> omega) | (simp only [*, bnf]; done) | fail) ?_
    (repeat (first | with_reducible refine W.seq ?_ | with_reducible refine Ops.nil ?_ | with_reducible refine W.region ?_ | refine z_p (kk := ?_)))
    refine W.fret rfl ⟨?_, rfl⟩
    rw [hk, if_pos (by omega)]; rfl
  · rw [if_neg (by omega)] at hk
    refine W.condF rfl (by first | rfl | assumption | (simp only [bnf] <;> omega) | (simp only [*, bnf]; done) | fail) ?_
    (repeat (first | with_reducible refine W.seq ?_ | with_reducible refine W.region ?_ | refine z_p (kk := ?_) | refine z_a (kk := ?_) | with_reducible refine W.skip ?_ | refine z_l (kk := ?_)))
    obtain ⟨a2, aM⟩ := hA.at_ (i := lenO o - 1) (by omega)
    rw [show ((l.length : Nat) : Int) - 1 = ((lenO o - 1 : Nat) : Int) by omega]
    (repeat (first | refine z_R0 (kk := fun _ _ => ?_)))
    obtain ⟨le, hRe, hAe⟩ := aM
    have hle := hAe.len
    obtain ⟨Ae, ce, hve⟩ := hRe.sh
    rw [hve]
    (repeat (first | with_reducible refine Ops.nil ?_ | refine z_p (kk := ?_) | refine z_l (kk := ?_)))
    by_cases h1 : le.length = 0
    · refine W.condT rfl (by first | rfl | assumption | (simp only [bnf] <;> omega) | (simp only [*, bnf]; done) | fail) ?_
      (repeat (first | with_reducible refine W.seq ?_ | with_reducible refine Ops.nil ?_ | with_reducible refine W.region ?_ | refine z_p (kk := ?_)))
      refine W.fret rfl ⟨?_, rfl⟩
      rw [hk, if_pos (by omega)]; rfl
    · refine W.condF rfl (by first | rfl | assumption | (simp only [bnf] <;> omega) | (simp only [*, bnf]; done) | fail) ?_
      (repeat (first | with_reducible refine W.seq ?_ | with_reducible refine Ops.nil ?_ | with_reducible refine W.region ?_ | refine z_p (kk := ?_) | with_reducible refine W.skip ?_))
      refine W.fret rfl ⟨?_, rfl⟩
      rw [hk, if_neg (by omega)]; rfl
set_option maxHeartbeats 4000000 in
theorem rmost_c : ∀ (n : Nat) {S' : Nat → Prop} {w : World} {v : Value} {o : Od}, szO o ≤ n → n ≤ 100000000 → OM S' w v o →
    Calls Tryz.prog 79 #[v] w (Ret fun r w' => r = .int .i64 (mostO o : Nat) ∧ Below w.heap.size w w') := by
  intro n
  induction n using Nat.strongRecOn with
  | _ n ih =>
  intro S' w v o hn hbig hM
  obtain ⟨l, hR, hA⟩ := hM
  have hl := hA.len
  have hls := len_le_sz o
  obtain ⟨A, c, rfl⟩ := hR.sh
  refine calls_W (vs := [_]) Tryz.func79 rfl (by kernel_rfl) rfl ?_
  (repeat (first | with_reducible refine W.seq ?_ | with_reducible refine Ops.nil ?_ | with_reducible refine W.region ?_ | refine z_p (kk := ?_) | with_reducible refine W.block ?_))
  refine W.loop (fun m ρ w' => ∃ (i acc : Nat), m = l.length - i ∧ i ≤ l.length ∧ Below w.heap.size w w' ∧ mostO o = max acc (mostO (dropO o i)) ∧ ρ = [(0, .slice A l.length c), (3, .int .i64 acc), (4, .int .i64 i)])
    ⟨_, _, ⟨0, 0, rfl, Nat.zero_le _, Below.refl _ _, by rw [dropO_zero]; omega, rfl⟩, (by repeat (first | exact trivial | refine And.intro rfl ?_))⟩ ?_
  rintro m ρ w1 ⟨i, acc, rfl, hi, hb1, hacc, rfl⟩
  (repeat (first | with_reducible refine W.seq ?_ | with_reducible refine Ops.nil ?_ | with_reducible refine W.region ?_ | refine z_p (kk := ?_) | refine z_l (kk := ?_)))
  (first | refine W.condD rfl (fun hc => ?_) (fun hc => ?_) | refine W.condE rfl (fun hc => ?_) (fun hc => ?_) | refine W.condN rfl (fun hc => ?_) (fun hc => ?_) | refine W.cond rfl (fun hc => ?_) (fun hc => ?_))
  · have hil : i < l.length := by omega
    obtain ⟨a2, aM⟩ := hA.at_ (i := i) (by omega)
    have hsz := nthE_sz (o := o) (i := i) (by omega)
    rw [dropO_cons (by omega)] at hacc
    simp only [mostO] at hacc
    have hR1 := hR.below hb1
    have hb11 : Below w1.heap.size w1 w1 := Below.refl _ _
    (repeat (first | with_reducible refine W.seq ?_ | with_reducible refine W.skip ?_ | with_reducible refine W.block ?_))
    refine W.ordA 99 [(0, 1), (1, 1), (2, 1), (3, 1), (4, 1), (5, 2), (6, 1), (7, 1), (8, 1), (9, 1), (10, 2), (11, 2), (12, 1), (13, 1)] rfl (by kernel_rfl) rfl (by kernel_rfl) (fun _ _ _ h => h) ?_
    (repeat (first | refine x_p (kk := ?_) | refine x_R0 (kk := fun _ _ => ?_) | refine x_R1 (kk := fun _ _ => ?_)))
    refine OrdA.call rfl rfl rfl rfl rfl rfl rfl (fun w' hw' => Calls.via hw' (ih _ (show szO (nthE o i) < n by omega) (Nat.le_refl _) (by omega) (aM.below (Below.via hb1 hw')))) ?_
    skip
    rw [a2]
    refine x_ev rfl (fun _ => EV.max3 rfl rfl rfl rfl) (kk := ?_)
    rw [show max (max (acc : Int) ((nthC o i : Nat) : Int)) ((mostO (nthE o i) : Nat) : Int) = ((max (max acc (nthC o i)) (mostO (nthE o i)) : Nat) : Int) by omega]
    (repeat (first | refine x_p (kk := ?_)))
    refine OrdA.nil (fun w4 hb4 => ?_)
    (repeat (first | with_reducible refine Ops.nil ?_ | with_reducible refine W.region ?_ | refine z_p (kk := ?_) | refine z_a (kk := ?_) | with_reducible refine W.endb ?_))
    exact W.endl ⟨_, _, ⟨⟨i + 1, max (max acc (nthC o i)) (mostO (nthE o i)), rfl, by omega, Below.via hb1 hb4, by omega, rfl⟩, by omega⟩, (by repeat (first | exact trivial | refine And.intro rfl ?_))⟩
  · have hil : i = l.length := by omega
    subst hil
    rw [hl, dropO_len] at hacc
    simp only [mostO] at hacc
    (repeat (first | with_reducible refine W.seq ?_ | with_reducible refine Ops.nil ?_ | with_reducible refine W.region ?_ | refine z_p (kk := ?_) | refine W.exit rfl ?_))
    refine W.fret rfl ⟨?_, hb1⟩
    rw [hacc, Nat.max_eq_left (Nat.zero_le _)]; rfl
theorem rFull_c {S' : Nat → Prop} {w : World} {v : Value} {o : Od} (hz : szO o ≤ 100000000) (hM : OM S' w v o) : Calls Tryz.prog 30 #[v] w (Ret fun r w' => r = .bool (bigO o) ∧ Below w.heap.size w w') := by
  refine calls_W (vs := [_]) Tryz.func30 rfl (by kernel_rfl) rfl ?_
  (repeat (first | with_reducible refine W.seq ?_ | with_reducible refine Ops.nil ?_ | with_reducible refine W.region ?_ | refine z_p (kk := ?_)))
  refine Ops.callS rfl rfl rfl rfl rfl (rSize_c _ (Nat.le_refl _) hz hM) ?_
  by_cases h : 60 < szO o
  · have hb : bigO o = true := decide_eq_true (.inl h)
    have f1 : decide (((szO o : Nat) : Int) > 60) = true := decide_eq_true (by omega)
    (repeat (first | with_reducible refine Ops.nil ?_ | refine z_p (kk := ?_) | refine z_n (kk := ?_) | refine z_g (kk := ?_)))
    refine W.fret rfl ⟨?_, Below.refl _ _⟩
    rw [hb, ← f1]
    rfl
  · have f1 : decide (((szO o : Nat) : Int) > 60) = false := decide_eq_false (by omega)
    (repeat (first | refine z_p (kk := ?_) | refine z_y (kk := ?_) | refine z_h (kk := ?_)))
    refine Ops.call rfl rfl rfl rfl rfl (rmost_c _ (Nat.le_refl _) hz hM) (fun r w1 hR => ?_)
    obtain ⟨rfl, hb1⟩ := hR
    (repeat (first | with_reducible refine Ops.nil ?_ | refine z_p (kk := ?_) | refine z_y (kk := ?_)))
    refine W.fret rfl ⟨?_, hb1⟩
    unfold bigO
    have : decide (((mostO o : Nat) : Int) > 1000) = decide (60 < szO o ∨ 1000 < mostO o) := decide_eq_decide.2 (by omega)
    rw [← this]
    rfl
end Go.Proofs.YtcmjlmnfdncajaaGreatDoor
namespace Go.Proofs.YtcmjlmnfdncajaaGreatDoor
open Go Go.RowKit Go.Proofs.YtcmjlmnfdncajaaGreatDoor.VW Go.Proofs.YtcmjlmnfdncajaaGreatDoor.TW
attribute [local irreducible] W Ops OrdA VW.Ord OrdX Wi OpsI OrdF
set_option maxHeartbeats 16000000 in
theorem rSum_c {S' : Nat → Prop} {w : World} {va vb : Value} {a b : Od} (hS : ∀ i, S' i → i < w.heap.size) (hA : OM S' w va a) (hB : OM S' w vb b) (hza : szO a ≤ 100000) (hzb : szO b ≤ 100000) (hta : topO a ≤ 10000000) (htb : topO b ≤ 10000000) :
    Calls Tryz.prog 53 #[va, vb] w (Ret fun r w' => OM S' w' r (addO a b) ∧ Below w.heap.size w w') := by
  obtain ⟨la, hRa, hAa⟩ := hA
  obtain ⟨lb, hRb, hAb⟩ := hB
  have hla := hAa.len
  have hlb := hAb.len
  have hza' := len_le_sz a
  have hzb' := len_le_sz b
  obtain ⟨Aa, ca, rfl⟩ := hRa.sh
  obtain ⟨Ab, cb, rfl⟩ := hRb.sh
  have hbb : Below w.heap.size w w := Below.refl _ _
  refine calls_W (vs := [_, _]) Tryz.func53 rfl (by kernel_rfl) rfl ?_
  cases b with
  | nil =>
    have hz : lb.length = 0 := hlb
    (repeat (first | with_reducible refine W.seq ?_ | with_reducible refine Ops.nil ?_ | with_reducible refine W.region ?_ | refine z_p (kk := ?_) | refine z_l (kk := ?_)))
    refine W.condT rfl (by first | rfl | assumption | (simp only [bnf] <;> omega) | (simp only [*, bnf]; done) | fail) ?_
    (repeat (first | with_reducible refine W.seq ?_ | with_reducible refine W.region ?_ | refine z_p (kk := ?_)))
    refine Ops.appP rfl rfl rfl rfl rfl rfl rfl rfl rfl (PR.nil (N := w.heap.size) (Nat.le_refl _)).2 hRa (OA_one hAa) (by simp only [List.length_nil]; omega) (fun v6 w3 hO3 k3 hn3 => ?_)
    have hP3 := pr_put (PR.nil (N := w.heap.size) (Nat.le_refl _)) (tr_size (Nat.le_refl _)) hO3 k3.size
    have hb3 : Below w.heap.size w w3 := k3.below (Nat.le_refl _) (fun i _ e => by cases e)
    (repeat (first | with_reducible refine Ops.nil ?_ | refine z_p (kk := ?_)))
    have hM3 : OM S' w3 v6 a := pr_OM hP3 hS (hAa.kp (kpF hb3) (fun _ e => e.elim)) (by omega)
    exact W.fret rfl ⟨hM3, hb3⟩
  | cons be bc br =>
    have hz : lb.length = lenO br + 1 := hlb
    obtain ⟨b2, bM⟩ := hAb.at_ (i := 0) (by simp [lenO])
    have hb1 := bM.one
    have hbd := hAb.drop 1
    have htb' := htb
    simp only [topO] at htb'
    rw [show nthE (.cons be bc br) 0 = be from rfl] at bM
    rw [show nthC (.cons be bc br) 0 = bc from rfl] at b2
    rw [show dropO (.cons be bc br) 1 = br by cases br <;> rfl] at hbd
    (repeat (first | with_reducible refine W.seq ?_ | with_reducible refine Ops.nil ?_ | with_reducible refine W.region ?_ | refine z_p (kk := ?_) | refine z_l (kk := ?_)))
    refine W.condF rfl (by first | rfl | assumption | (simp only [bnf] <;> omega) | (simp only [*, bnf]; done) | fail) ?_
    (repeat (first | with_reducible refine W.seq ?_ | with_reducible refine W.region ?_ | refine z_p (kk := ?_) | with_reducible refine W.skip ?_))
    refine z_R2 (i := 0) (kk := fun _ => ?_)
    rw [b2]
    generalize hvb : (lb.getD 0 default).1 = vb0 at *
    refine Ops.alloc rfl rfl rfl rfl (fun w1 b6 hM1 => ?_)
    refine Ops.stN (vs := [vb0, .int .i64 (bc : Nat)]) (cs := [.slice none 0 0, .int .i64 0]) rfl rfl rfl rfl rfl rfl (by intro v hv; simp at hv; rcases hv with rfl | rfl; exact hb1; rfl) rfl hM1.at_ (fun w2 hu2 => ?_)
    have B2 : Blk w2 b6 #[vb0, .int .i64 (bc : Nat)] 100 := hu2.blk
    have e1 := hM1.r_eq
    have hb02 : Below w.heap.size w w2 := Below.put (Mk.bel hM1) hu2.kp (fun k e => by omega)
    have hw2s := hb02.size
    have hb6 := B2.lt
    (repeat (first | with_reducible refine W.seq ?_ | with_reducible refine Ops.nil ?_ | with_reducible refine W.region ?_ | refine z_p (kk := ?_) | with_reducible refine W.block ?_))
    refine W.loop (fun m ρ w3 => ∃ (i k : Nat) (acc : Od) (l : List (Value × Nat)) (ov : Value), m = la.length - i ∧ i ≤ la.length ∧ ρ = [(0, .slice Aa la.length ca), (1, .slice Ab lb.length cb), (5, ov), (6, .pointer (some ⟨b6, 0, none⟩)), (7, .int .i64 i)] ∧
        Below w.heap.size w w3 ∧ PR w.heap.size w3 ov l ∧ OA S' w acc l ∧ Blk w3 b6 #[vb0, .int .i64 (k : Nat)] 100 ∧ (∀ j, ov.ownBlock = some j → j ≠ b6) ∧ addGo be br a bc = appO acc (addGo be br (dropO a i) k) ∧ k ≤ 10000000 * (i + 1) ∧ lenO acc ≤ i)
      ⟨_, _, ⟨0, bc, .nil, [], _, rfl, Nat.zero_le _, rfl, hb02, PR.nil (by omega), rfl, B2, fun j hj => by simp [Value.ownBlock] at hj, by rw [dropO_zero]; rfl, by omega, Nat.zero_le _⟩, (by repeat (first | exact trivial | refine And.intro rfl ?_))⟩ ?_
    clear hb02 B2 hu2 hM1 hb6 hw2s hbb
    rintro m ρ w3 ⟨i, k, acc, l, ov, rfl, hi, rfl, hb03, hP, hAc, B3, hne, heq, hk, hlac⟩
    have hPs := hP.1
    have hb33 : Below w3.heap.size w3 w3 := Below.refl _ _
    have hlen := hAc.len
    (repeat (first | with_reducible refine W.seq ?_ | with_reducible refine Ops.nil ?_ | with_reducible refine W.region ?_ | refine z_p (kk := ?_) | refine z_l (kk := ?_)))
    (first | refine W.condD rfl (fun hc => ?_) (fun hc => ?_) | refine W.condE rfl (fun hc => ?_) (fun hc => ?_) | refine W.condN rfl (fun hc => ?_) (fun hc => ?_) | refine W.cond rfl (fun hc => ?_) (fun hc => ?_))
    · have hil : i < la.length := by omega
      obtain ⟨a2, aM⟩ := hAa.at_ (i := i) (by omega)
      have ha1 := aM.one
      have htc := top_le hta (i := i) (by omega)
      rw [dropO_cons (by omega), addGo] at heq
      generalize hva : (la.getD i default).1 = va at *
      generalize hca : (la.getD i default).2 = cc at *
      subst a2
      have hRa3 := hRa.below hb03
      (repeat (first | with_reducible refine W.seq ?_ | with_reducible refine W.skip ?_ | with_reducible refine W.block ?_))
      refine W.ordA 99 [(0, 1), (1, 1), (2, 1), (3, 1), (4, 2), (5, 1), (6, 2), (7, 2)] rfl (by kernel_rfl) rfl (by kernel_rfl) (fun _ _ _ h => h) ?_
      (repeat (first | refine x_p (kk := ?_) | refine x_R0 (kk := fun _ _ => ?_) | refine x_f2 (kk := ?_) | refine x_D (kk := ?_)))
      rw [hva]
      refine OrdA.call rfl rfl rfl rfl rfl rfl rfl (fun w' hw' => Calls.via hw' (refCompare_c _ (Nat.le_refl _) (aM.below (Below.via hb03 hw')) (bM.below (Below.via hb03 hw')))) ?_
      refine OrdA.nil (fun w6 hb36 => ?_)
      have hb06 := Below.via hb03 hb36
      have hP6 := pr_kp hP (kpF hb36) (fun _ _ e => e)
      have B66 := B3.kp (kpF hb36) (fun e => e)
      have hb66 : Below w6.heap.size w6 w6 := Below.refl _ _
      have hRa6 := hRa.below hb06
      clear hP B3 hb03 hb33 hRa3
      have hb6lt := B66.lt
      (repeat (first | with_reducible refine W.seq ?_ | with_reducible refine Ops.nil ?_ | with_reducible refine W.region ?_ | refine z_p (kk := ?_) | with_reducible refine W.block ?_))
      rcases cmp_rng (nthE a i) be with hx | hx | hx
      · rw [hx] at heq ⊢
        rw [if_neg (by omega), if_neg (by omega)] at heq
        refine W.condF rfl (by first | rfl | assumption | (simp only [bnf] <;> omega) | (simp only [*, bnf]; done) | fail) ?_
        (repeat (first | with_reducible refine W.seq ?_ | with_reducible refine Ops.nil ?_ | with_reducible refine W.region ?_ | refine z_p (kk := ?_)))
        refine W.condF rfl (by first | rfl | assumption | (simp only [bnf] <;> omega) | (simp only [*, bnf]; done) | fail) ?_
        (repeat (first | with_reducible refine Ops.nil ?_ | with_reducible refine W.region ?_ | refine z_p (kk := ?_) | refine z_a (kk := ?_) | with_reducible refine W.skip ?_ | with_reducible refine W.endb ?_))
        exact W.endl ⟨_, _, ⟨⟨i + 1, k, acc, l, ov, rfl, by omega, rfl, hb06, hP6, hAc, B66, hne, heq, by omega, by omega⟩, by omega⟩, (by repeat (first | exact trivial | refine And.intro rfl ?_))⟩
      · rw [hx] at heq ⊢
        rw [if_neg (by omega), if_pos rfl] at heq
        refine W.condF rfl (by first | rfl | assumption | (simp only [bnf] <;> omega) | (simp only [*, bnf]; done) | fail) ?_
        (repeat (first | with_reducible refine W.seq ?_ | with_reducible refine Ops.nil ?_ | with_reducible refine W.region ?_ | refine z_p (kk := ?_)))
        refine W.condT rfl (by first | rfl | assumption | (simp only [bnf] <;> omega) | (simp only [*, bnf]; done) | fail) ?_
        skip
        refine W.ordA 11 [(0, 1), (1, 2), (2, 1), (3, 1), (4, 1), (5, 1), (6, 2), (7, 1), (8, 2), (9, 1), (10, 1), (11, 0)] rfl (by kernel_rfl) rfl (by kernel_rfl) (fun _ _ _ h => h) ?_
        (repeat (first | refine x_p (kk := ?_) | refine x_a (kk := ?_) | refine x_R1 (kk := fun _ _ => ?_) | refine x_f2 (kk := ?_) | refine x_D (kk := ?_)))
        rw [hca]
        skip
        rw [show ((nthC a i : Nat) : Int) + ((k : Nat) : Int) = ((k + nthC a i : Nat) : Int) by omega]
        refine x_ev rfl (fun _ => EV.bld2 rfl rfl rfl rfl rfl hb1 rfl) (kk := ?_)
        refine OrdA.tail (fun w7 hb67 => ?_)
        have hb07 := Below.via hb06 hb67
        have hP7 := pr_kp hP6 (kpF hb67) (fun _ _ e => e)
        have B67 := B66.kp (kpF hb67) (fun e => e)
        refine VW.Ord.effT rfl (Ops.stN (vs := [vb0, .int .i64 ((k + nthC a i : Nat) : Int)]) (cs := [vb0, .int .i64 (k : Nat)]) rfl rfl rfl rfl rfl rfl (by intro v hv; simp only [List.mem_cons, List.not_mem_nil, or_false] at hv; rcases hv with rfl | rfl; exact hb1; rfl) rfl B67 (fun w8 hu8 => Ops.nil (W.endl ?_)))
        have hP8 := pr_kp hP7 hu8.kp (fun j hj => hne j hj)
        refine VW.Ord.nil ?_
        (repeat (first | with_reducible refine Ops.nil ?_ | with_reducible refine W.region ?_ | refine z_p (kk := ?_) | refine z_a (kk := ?_) | with_reducible refine W.endb ?_))
        exact W.endl ⟨_, _, ⟨⟨i + 1, k + nthC a i, acc, l, ov, rfl, by omega, rfl, Below.put hb07 hu8.kp (fun j hj => by omega), hP8, hAc, hu8.blk, hne, heq, by omega, by omega⟩, by omega⟩, (by repeat (first | exact trivial | refine And.intro rfl ?_))⟩
      · rw [hx] at heq ⊢
        rw [if_pos rfl, appO_cons_snoc] at heq
        refine W.condT rfl (by first | rfl | assumption | (simp only [bnf] <;> omega) | (simp only [*, bnf]; done) | fail) ?_
        (repeat (first | with_reducible refine W.region ?_ | refine z_p (kk := ?_) | refine z_R2 (kk := fun _ => ?_)))
        rw [hva, hca]
        refine Ops.pushP (fa := pA) (fb := pB) (z := (va, nthC a i)) rfl rfl rfl rfl rfl rfl rfl rfl rfl rfl rfl (fun _ => rfl) ha1 rfl hP6.2 (by omega) (fun lv' p w7 hO7 k7 hn7 => ?_)
        have hP7 := pr_put hP6 (tr_size hP6.1) hO7 k7.size
        have B77 := B66.kp k7 (fun h => hne _ h rfl)
        have hAs := OA_snoc (c := nthC a i) aM hAc
        have hls : lenO (snocO acc (nthE a i) (nthC a i)) = lenO acc + 1 := by unfold snocO; rw [lenO_app]; rfl
        (repeat (first | with_reducible refine Ops.nil ?_ | with_reducible refine W.region ?_ | refine z_p (kk := ?_) | refine z_a (kk := ?_) | with_reducible refine W.endb ?_))
        exact W.endl ⟨_, _, ⟨⟨i + 1, k, snocO acc (nthE a i) (nthC a i), l ++ [(va, nthC a i)], lv', rfl, by omega, rfl, Below.put hb06 k7 (fun j hj => pr_ge hP6 j hj), hP7, hAs, B77, fun j hj e => by rcases hn7 j hj with q | q; exact hne j q e; omega, heq, by omega, by omega⟩, by omega⟩, (by repeat (first | exact trivial | refine And.intro rfl ?_))⟩
    · have hil : i = la.length := by omega
      subst hil
      rw [hla, dropO_len] at heq
      have heq' : addO a (.cons be bc br) = appO acc (.cons be k br) := heq
      have hlbr := hbd.len
      (repeat (first | with_reducible refine W.seq ?_ | with_reducible refine W.region ?_ | refine z_p (kk := ?_) | refine W.exit rfl ?_ | refine z_D2 (kk := ?_)))
      refine Ops.pushP (fa := pA) (fb := pB) (z := (vb0, k)) rfl rfl rfl rfl rfl rfl rfl rfl rfl rfl rfl (fun _ => rfl) hb1 rfl hP.2 (by omega) (fun lv5 p w5 hO5 k5 hn5 => ?_)
      have hP5 := pr_put hP (tr_size hP.1) hO5 k5.size
      have hb05 := Below.put hb03 k5 (fun j hj => pr_ge hP j hj)
      have hRd := (hRb.slD (q := 1) (by omega)).below hb05
      have hAs := OA_snoc (c := k) bM hAc
      have hdl : (lb.drop 1).length = lenO br := hbd.len
      (repeat (first | with_reducible refine W.seq ?_ | with_reducible refine Ops.nil ?_ | with_reducible refine W.region ?_ | refine z_p (kk := ?_)))
      refine z_ev (EV.slP (q := 1) rfl rfl rfl rfl rfl (by omega)) (kk := ?_)
      refine Ops.appP rfl rfl rfl rfl rfl rfl rfl rfl rfl hP5.2 hRd (OA_one hbd) (by rw [List.length_append, List.length_singleton]; omega) (fun v6 w6 hO6 k6 hn6 => ?_)
      have hP6 := pr_put hP5 (tr_size hP5.1) hO6 k6.size
      have hb06 := Below.put hb05 k6 (fun j hj => pr_ge hP5 j hj)
      have hOA := OA_app hAs hbd
      rw [appO_snoc, ← heq'] at hOA
      have hM6 : OM S' w6 v6 (addO a (.cons be bc br)) := ⟨_, pr_R2 hP6 (by rw [List.length_append, List.length_append, List.length_singleton]; omega) (fun j hj h => by have := pr_ge hP6 j hj; have := hS j h; omega), hOA.kp (Kp.of_below (S := fun _ => False) hb06) (fun _ e => e.elim)⟩
      (repeat (first | with_reducible refine Ops.nil ?_ | refine z_p (kk := ?_)))
      exact W.fret rfl ⟨hM6, hb06⟩
end Go.Proofs.YtcmjlmnfdncajaaGreatDoor
/- Plain: descents, one by one; products by one; finite ordinals. -/
namespace Go.Proofs.YtcmjlmnfdncajaaGreatDoor.TW
structure DesS (f : Nat) (a : Od) (n : Nat) (l : List Od) : Prop where
  pos : 1 ≤ l.length
  le : l.length ≤ f
  hd : l.getD 0 .nil = a
  fin : l.getD (l.length - 1) .nil = .nil
  nxt : ∀ i, i + 1 < l.length → l.getD i .nil ≠ .nil ∧ l.getD (i + 1) .nil = stepO (l.getD i .nil) (n + i) ∧ bigO (l.getD (i + 1) .nil) = false
theorem desW_spec : ∀ {f : Nat} {a : Od} {n : Nat} {l : List Od}, desW bigO f a n = some l → DesS f a n l
  | 0, a, n, l, h => by simp [desW] at h
  | f + 1, .nil, n, l, h => by
    simp only [desW, Option.some.injEq] at h
    subst h
    exact ⟨by simp, by simp, rfl, rfl, fun i hi => by simp at hi⟩
  | f + 1, .cons e c r, n, l, h => by
    simp only [desW] at h
    split at h
    · cases h
    · rename_i hb
      cases hx : desW bigO f (stepO (.cons e c r) n) (n + 1) with
      | none => rw [hx] at h; cases h
      | some q =>
        rw [hx] at h
        simp only [Option.map_some, Option.some.injEq] at h
        subst h
        have ih := desW_spec hx
        have hp := ih.pos
        refine ⟨by simp, by have := ih.le; simp; omega, rfl, ?_, fun i hi => ?_⟩
        · rw [List.length_cons, Nat.add_sub_cancel, show q.length = (q.length - 1) + 1 by omega, List.getD_cons_succ]
          exact ih.fin
        · cases i with
          | zero =>
            simp only [List.getD_cons_succ, List.getD_cons_zero, Nat.add_zero]
            rw [ih.hd]
            exact ⟨by simp, rfl, by simpa using hb⟩
          | succ i =>
            have := ih.nxt i (by simpa using hi)
            simp only [List.getD_cons_succ]
            rw [show n + (i + 1) = n + 1 + i by omega]
            exact this
theorem DesS.ok {f : Nat} {a : Od} {n : Nat} {l : List Od} (h : DesS f a n l) (hN : NF a) (hm : mostO a ≤ 1000) (hz : szO a ≤ 60) : ∀ i, i < l.length → NF (l.getD i .nil) ∧ mostO (l.getD i .nil) ≤ 1000 ∧ szO (l.getD i .nil) ≤ 60
  | 0, _ => by rw [h.hd]; exact ⟨hN, hm, hz⟩
  | i + 1, hi => by
    have ih := h.ok hN hm hz i (by omega)
    obtain ⟨h1, h2, h3⟩ := h.nxt i hi
    have h4 := of_decide_eq_false h3
    refine ⟨?_, by omega, by omega⟩
    rw [h2]
    exact step_NF _ ih.1
theorem DesS.rd {f : Nat} {a : Od} {n : Nat} {l : List Od} (h : DesS f a n l) (hN : NF a) (hm : mostO a ≤ 1000) (hz : szO a ≤ 60) {i : Nat} (hi : i < l.length) : rdA (txO (l.getD i .nil)) = some (l.getD i .nil) := by
  obtain ⟨h1, h2, h3⟩ := h.ok hN hm hz i hi
  exact rdA_tx h1 (small_of h1 h2) h3
/-- Behind the parts of a, all of which are greater. -/
theorem add_snoc : ∀ {a e : Od} {c : Nat}, NF (snocO a e c) → addO a (.cons e c .nil) = snocO a e c
  | .nil, e, c, _ => by rw [addO_nil]; rfl
  | .cons ae ac ar, e, c, h => by
    obtain ⟨h1, h2, h3, h4⟩ := h
    have hlt : ltO e ae := by
      have key : ∀ (ar : Od), NF (appO ar (.cons e c .nil)) → HdLt ae (appO ar (.cons e c .nil)) → ltO e ae := fun ar => by
        induction ar with
        | nil => intro _ h; exact h
        | cons x y z _ ih =>
          intro h h5
          refine ih h.2.2.1 ?_
          exact HdLt.up h5 h.2.2.2
      exact key ar h3 h4
    rw [addO_gt hlt, add_snoc h3]
    rfl
theorem prodR_one : ∀ (b acc : Od), NF (appO acc b) → okS (appO acc b) → prodR .nil 1 .nil acc b = some (appO acc b)
  | .nil, acc, _, _ => by rw [appO_nil]; rfl
  | .cons be bc br, acc, h, hk => by
    have e1 : nxtR .nil 1 .nil be bc = .cons be bc .nil := by
      cases be with
      | nil => simp [nxtR]
      | cons x y z => simp only [nxtR, addO_nil]
    rw [← appO_snoc] at h hk
    have hN : NF (snocO acc be bc) := by
      have key : ∀ (a b : Od), NF (appO a b) → NF a := fun a => by
        induction a with
        | nil => intro _ _; trivial
        | cons x y z _ ih =>
          intro b h
          refine ⟨h.1, h.2.1, ih b h.2.2.1, ?_⟩
          cases z with
          | nil => trivial
          | cons p q r => exact h.2.2.2
      exact key _ br h
    have hs := add_snoc hN
    simp only [prodR]
    rw [e1, hs, if_neg, prodR_one br _ h hk, appO_snoc]
    have h1 := hk.1
    have h2 := hk.2
    rw [most_app] at h1
    rw [szO_app] at h2
    unfold bigO
    simp only [decide_eq_true_eq]
    omega
def prodC : Od → Od → Option Od
  | .nil, _ => some .nil
  | .cons ae ac ar, b => prodL ae ac ar .nil b
theorem prodC_nil (a : Od) : prodC a .nil = some .nil := by cases a <;> rfl
theorem prodC_one {a : Od} (hN : NF a) (h : okS a) : prodC a oneO = some a := by
  cases a with
  | nil => rfl
  | cons e c r =>
    have hb : bigT (.cons e c r) = false := by
      have h1 := h.1
      have h2 := h.2
      have h3 := most_top (.cons e c r)
      exact decide_eq_false (by omega)
    show prodL e c r .nil (.cons .nil 1 .nil) = _
    have e1 : stL e c r .nil .nil 1 = some (.cons e c r) := by
      show (chk (.cons e (c * 1) r)).bind (addC .nil) = _
      rw [Nat.mul_one]
      unfold chk
      rw [hb]
      show addC .nil (.cons e c r) = _
      rw [addC_cons, addO_nil]
      unfold chk
      rw [hb]; rfl
    simp only [prodL, e1]
theorem one_prodC {b : Od} (hN : NF b) (h : okS b) : prodC oneO b = some b := by
  show prodL .nil 1 .nil .nil b = _
  rw [prod_eq ⟨by simp [mostO], by simp [szO]⟩ b .nil h.1 (by simp [exM]), prodR_one b .nil hN h]
  rfl
theorem prodR_ok {ae ar : Od} {ac : Nat} : ∀ (b acc r : Od), okS acc → prodR ae ac ar acc b = some r → okS r
  | .nil, acc, r, h, hr => by
    simp only [prodR, Option.some.injEq] at hr
    subst hr; exact h
  | .cons be bc br, acc, r, h, hr => by
    simp only [prodR] at hr
    split at hr
    · cases hr
    · rename_i hb
      refine prodR_ok br _ r ?_ hr
      unfold bigO at hb
      simp only [decide_eq_true_eq] at hb
      exact ⟨by omega, by omega⟩
theorem prodC_spec {a b r : Od} (ha : NF a) (hb : NF b) (ka : okS a) (kb : okS b) (h : prodC a b = some r) : r = mulO a b ∧ okS r := by
  cases a with
  | nil =>
    simp only [prodC, Option.some.injEq] at h
    subst h
    exact ⟨(nil_mul b).symm, by simp [okS, mostO, szO]⟩
  | cons ae ac ar =>
    have h1 := prod_mul ha b .nil r hb trivial h
    rw [addO_nil] at h1
    refine ⟨h1, ?_⟩
    have h2 : prodR ae ac ar .nil b = some r := by
      rw [← prod_eq ka b .nil kb.1 (by simp [exM])]
      exact h
    exact prodR_ok b .nil r (by simp [okS, mostO, szO]) h2
theorem mulO_NF {a b : Od} (ha : NF a) (hb : NF b) : NF (mulO a b) := by
  cases a with
  | nil => rw [nil_mul]; trivial
  | cons e c r => exact mul_NF ha hb
theorem okS_rd {a : Od} (h : NF a) (k : okS a) : rdA (txO a) = some a := rdA_tx h (small_of h k.1) k.2
theorem addC_spec {a b o : Od} (ka : okS a) (kb : okS b) (h : addC a b = some o) : o = addO a b ∧ okS o := by
  cases b with
  | nil =>
    simp only [addC, Option.some.injEq] at h
    subst h
    exact ⟨rfl, ka⟩
  | cons be bc br =>
    rw [addC_cons] at h
    unfold chk at h
    split at h
    · cases h
    · rename_i hb
      simp only [Option.some.injEq] at h
      subst h
      refine ⟨rfl, ?_⟩
      obtain ⟨a1, a2⟩ := ka
      obtain ⟨b1, b2⟩ := kb
      have h3 := exM_le a
      have h4 := exM_le (.cons be bc br)
      have h5 := (add_sizes a (.cons be bc br)).2.2.2.2
      have h6 := most_eq (addO a (.cons be bc br))
      have h7 : ¬ (1000 < topO (addO a (.cons be bc br)) ∨ 60 < szO (addO a (.cons be bc br))) := fun q => hb (decide_eq_true q)
      exact ⟨by omega, by omega⟩
theorem okS_big {a : Od} (h : okS a) : bigT a = false := by
  have := most_top a
  exact decide_eq_false (by have := h.1; have := h.2; omega)
/-- The sum, with what is too large, in one. -/
theorem addC_eq {a b : Od} (ka : okS a) : addC a b = chk (addO a b) := by
  cases b with
  | nil =>
    show some a = _
    rw [addO_nil']
    unfold chk
    rw [okS_big ka]; rfl
  | cons be bc br => rfl
theorem addC_assoc {a b c s t : Od} (ha : NF a) (hb : NF b) (hc : NF c) (ka : okS a) (kb : okS b) (kc : okS c) (h1 : addC a b = some s) (h2 : addC b c = some t) : addC s c = addC a t := by
  obtain ⟨e1, k1⟩ := addC_spec ka kb h1
  obtain ⟨e2, k2⟩ := addC_spec kb kc h2
  rw [addC_eq k1, addC_eq ka, e1, e2, addO_assoc ha hb hc]
theorem lim_hd {o : Od} (hN : NF o) (h : kindO o = 2) : ∃ e c r, o = .cons e c r ∧ e ≠ .nil := by
  cases o with
  | nil => simp [kindO] at h
  | cons e c r =>
    refine ⟨e, c, r, rfl, fun he => ?_⟩
    subst he
    have hr := hd_nil hN.2.2.2
    subst hr
    simp [kindO] at h
theorem fin_absorb {o : Od} {m : Nat} (hN : NF o) (h : kindO o = 2) : addO (ptO .nil m .nil) o = o := by
  obtain ⟨e, c, r, rfl, he⟩ := lim_hd hN h
  unfold ptO
  split
  · rename_i hm
    refine addO_lt ⟨trivial, hm, trivial, trivial⟩ ?_
    cases e with
    | nil => exact absurd rfl he
    | cons _ _ _ => exact nil_lt
  · rw [addO_nil]
end Go.Proofs.YtcmjlmnfdncajaaGreatDoor.TW
namespace Go.Proofs.YtcmjlmnfdncajaaGreatDoor
open Go Go.RowKit Go.Proofs.YtcmjlmnfdncajaaGreatDoor.VW Go.Proofs.YtcmjlmnfdncajaaGreatDoor.TW
attribute [local irreducible] W Ops OrdA VW.Ord OrdX Wi OpsI OrdF
theorem rg_at {a b : Od} {i : Nat} (hi : i < lenO a) (hk : i < lenO b) : restG (dropO a i) (dropO b i) = if cmpO (nthE a i) (nthE b i) = 0 then (if nthC a i = nthC b i then restG (dropO a (i + 1)) (dropO b (i + 1)) else .cons (nthE b i) (nthC b i - nthC a i) (dropO b (i + 1))) else dropO b i := by
  rw [dropO_cons hi, dropO_cons (o := b) hk, restG]
theorem rg_cmp {a b : Od} {i : Nat} (hi : i < lenO a) (hk : i < lenO b) : cmpO (dropO a i) (dropO b i) = if cmpO (nthE a i) (nthE b i) = 0 then (if nthC a i < nthC b i then -1 else if nthC b i < nthC a i then 1 else cmpO (dropO a (i + 1)) (dropO b (i + 1))) else cmpO (nthE a i) (nthE b i) := by
  rw [dropO_cons hi, dropO_cons (o := b) hk, cmpO]
theorem rg_end {a b : Od} {i : Nat} (h : dropO a i = .nil ∨ dropO b i = .nil) : restG (dropO a i) (dropO b i) = dropO b i := by
  rcases h with h | h
  · rw [h]; rfl
  · rw [h]; cases dropO a i <;> rfl
theorem drop_end (o : Od) : dropO o (lenO o) = .nil := dropO_len o
set_option maxHeartbeats 16000000 in
theorem rRest_c {S' : Nat → Prop} {w : World} {va vb : Value} {a b : Od} (hS : ∀ i, S' i → i < w.heap.size) (hA : OM S' w va a) (hB : OM S' w vb b) (ka : okS a) (kb : okS b) :
    Calls Tryz.prog 57 #[va, vb] w (Ret fun r w' => ((cmpO a b > 0 ∧ ∃ v, r = .tuple #[v, .bool false]) ∨ (¬ cmpO a b > 0 ∧ ∃ v, r = .tuple #[v, .bool true] ∧ OM S' w' v (restG a b))) ∧ Below w.heap.size w w') := by
  have hA0 := hA
  have hB0 := hB
  obtain ⟨la, hRa, hAa⟩ := hA
  obtain ⟨lb, hRb, hAb⟩ := hB
  have hla := hAa.len
  have hlb := hAb.len
  have hza' := len_le_sz a
  have hzb' := len_le_sz b
  have hta := most_top a
  have htb := most_top b
  obtain ⟨ka1, ka2⟩ := ka
  obtain ⟨kb1, kb2⟩ := kb
  obtain ⟨Aa, ca, rfl⟩ := hRa.sh
  obtain ⟨Ab, cb, rfl⟩ := hRb.sh
  refine calls_W (vs := [_, _]) Tryz.func57 rfl (by kernel_rfl) rfl ?_
  (repeat (first | with_reducible refine W.seq ?_ | with_reducible refine Ops.nil ?_ | with_reducible refine W.region ?_ | refine z_p (kk := ?_)))
  refine Ops.call rfl rfl rfl rfl rfl (refCompare_c _ (Nat.le_refl _) hA0 hB0) (fun r w1 hR => ?_)
  obtain ⟨rfl, hb1⟩ := hR
  by_cases hgt : cmpO a b > 0
  · (repeat (first | with_reducible refine Ops.nil ?_ | refine z_p (kk := ?_)))
    refine W.condT rfl (by first | (simp; done) | (simp; omega)) ?_
    (repeat (first | with_reducible refine W.seq ?_ | with_reducible refine Ops.nil ?_ | with_reducible refine W.region ?_ | refine z_p (kk := ?_)))
    exact W.fret rfl ⟨.inl ⟨hgt, _, rfl⟩, hb1⟩
  (repeat (first | with_reducible refine Ops.nil ?_ | refine z_p (kk := ?_)))
  refine W.condF rfl (by first | (simp; done) | (simp; omega)) ?_
  refine W.skip ?_
  refine W.seq ?_
  refine W.cut (fun ρ w' => ρ = [(0, .slice Aa la.length ca), (1, .slice Ab lb.length cb), (6, .int .i64 0)] ∧ w' = w1) ?_ ?_
  · (repeat (first | with_reducible refine Ops.nil ?_ | with_reducible refine W.region ?_ | refine z_p (kk := ?_)))
    exact W.endl ⟨_, ⟨rfl, rfl⟩, (by repeat (first | exact trivial | refine And.intro rfl ?_))⟩
  rintro ρ w1' ⟨rfl, rfl⟩
  refine W.seq ?_
  refine W.cut (fun ρ w' => ∃ i : Nat, ρ = [(0, .slice Aa la.length ca), (1, .slice Ab lb.length cb), (6, .int .i64 (i : Int))] ∧ Below w.heap.size w w' ∧ i ≤ la.length ∧ i ≤ lb.length ∧ restG a b = restG (dropO a i) (dropO b i) ∧ cmpO a b = cmpO (dropO a i) (dropO b i) ∧ ¬ (i < la.length ∧ i < lb.length ∧ cmpO (nthE a i) (nthE b i) = 0 ∧ nthC a i = nthC b i)) ?_ ?_
  · (repeat (first | with_reducible refine W.block ?_))
    refine W.loop (fun m ρ w2 => ∃ i : Nat, m = la.length - i ∧ ρ = [(0, .slice Aa la.length ca), (1, .slice Ab lb.length cb), (6, .int .i64 (i : Int))] ∧ Below w.heap.size w w2 ∧ i ≤ la.length ∧ i ≤ lb.length ∧ restG a b = restG (dropO a i) (dropO b i) ∧ cmpO a b = cmpO (dropO a i) (dropO b i))
      ⟨_, _, ⟨0, rfl, rfl, hb1, Nat.zero_le _, Nat.zero_le _, by rw [dropO_zero, dropO_zero], by rw [dropO_zero, dropO_zero]⟩, (by repeat (first | exact trivial | refine And.intro rfl ?_))⟩ ?_
    rintro m ρ w2 ⟨i, rfl, rfl, hb2, hia, hib, heq, hceq⟩
    have hb22 : Below w2.heap.size w2 w2 := Below.refl _ _
    have hRa2 := hRa.below hb2
    have hRb2 := hRb.below hb2
    by_cases h1 : i < la.length
    rotate_left
    · have f1 : decide ((i : Int) < (la.length : Int)) = false := decide_eq_false (by omega)
      (repeat (first | with_reducible refine W.seq ?_))
      refine W.ordA 99 [(0, 1), (1, 1), (2, 1), (3, 1), (4, 1), (5, 1), (6, 1), (7, 1), (8, 1), (9, 1), (10, 1), (11, 1), (12, 1), (13, 1), (14, 1), (15, 2), (16, 1), (17, 1), (18, 1), (19, 1), (20, 2), (21, 1), (22, 1), (23, 1), (24, 1), (25, 1), (26, 1), (27, 1), (28, 2), (29, 1), (30, 1), (31, 1), (32, 1), (33, 2), (34, 2), (35, 1), (36, 1)] rfl (by kernel_rfl) rfl (by kernel_rfl) (fun _ _ _ h => h) ?_
      (repeat (first | refine x_p (kk := ?_) | refine x_l (kk := ?_)))
      (first | refine x_t (kk := ?_) | refine x_f (kk := ?_))
      (repeat (first | refine x_p (kk := ?_) | refine x_n (kk := ?_)))
      refine OrdA.nil (fun w3 hb3 => ?_)
      skip
      refine W.condF rfl (by first | rfl | assumption | (simp; done) | (simp; omega)) ?_
      (repeat (first | refine W.exit rfl ?_))
      exact W.endl ⟨_, ⟨i, rfl, Below.via hb2 hb3, hia, hib, heq, hceq, fun h => h1 h.1⟩, (by repeat (first | exact trivial | refine And.intro rfl ?_))⟩
    have f1 : decide ((i : Int) < (la.length : Int)) = true := decide_eq_true (by omega)
    by_cases h2 : i < lb.length
    rotate_left
    · have f2 : decide ((i : Int) < (lb.length : Int)) = false := decide_eq_false (by omega)
      (repeat (first | with_reducible refine W.seq ?_))
      refine W.ordA 99 [(0, 1), (1, 1), (2, 1), (3, 1), (4, 1), (5, 1), (6, 1), (7, 1), (8, 1), (9, 1), (10, 1), (11, 1), (12, 1), (13, 1), (14, 1), (15, 2), (16, 1), (17, 1), (18, 1), (19, 1), (20, 2), (21, 1), (22, 1), (23, 1), (24, 1), (25, 1), (26, 1), (27, 1), (28, 2), (29, 1), (30, 1), (31, 1), (32, 1), (33, 2), (34, 2), (35, 1), (36, 1)] rfl (by kernel_rfl) rfl (by kernel_rfl) (fun _ _ _ h => h) ?_
      (repeat (first | refine x_p (kk := ?_) | refine x_l (kk := ?_)))
      (first | refine x_t (kk := ?_) | refine x_f (kk := ?_))
      (repeat (first | refine x_p (kk := ?_) | refine x_l (kk := ?_)))
      (first | refine x_t (kk := ?_) | refine x_f (kk := ?_))
      (repeat (first | refine x_p (kk := ?_) | refine x_n (kk := ?_)))
      refine OrdA.nil (fun w3 hb3 => ?_)
      skip
      refine W.condF rfl (by first | rfl | assumption | (simp; done) | (simp; omega)) ?_
      (repeat (first | refine W.exit rfl ?_))
      exact W.endl ⟨_, ⟨i, rfl, Below.via hb2 hb3, hia, hib, heq, hceq, fun h => h2 h.2.1⟩, (by repeat (first | exact trivial | refine And.intro rfl ?_))⟩
    have f2 : decide ((i : Int) < (lb.length : Int)) = true := decide_eq_true (by omega)
    obtain ⟨a2, aM⟩ := hAa.at_ (i := i) (by omega)
    obtain ⟨b2, bM⟩ := hAb.at_ (i := i) (by omega)
    have aM2 := aM.below hb2
    have bM2 := bM.below hb2
    rw [rg_at (by omega) (by omega)] at heq
    rw [rg_cmp (by omega) (by omega)] at hceq
    by_cases h3 : nthC a i = nthC b i
    rotate_left
    · have f3 : ((((la.getD i default).2 : Nat) : Int) == (((lb.getD i default).2 : Nat) : Int)) = false := by rw [a2, b2, beq_eq_false_iff_ne]; omega
      (repeat (first | with_reducible refine W.seq ?_))
      refine W.ordA 99 [(0, 1), (1, 1), (2, 1), (3, 1), (4, 1), (5, 1), (6, 1), (7, 1), (8, 1), (9, 1), (10, 1), (11, 1), (12, 1), (13, 1), (14, 1), (15, 2), (16, 1), (17, 1), (18, 1), (19, 1), (20, 2), (21, 1), (22, 1), (23, 1), (24, 1), (25, 1), (26, 1), (27, 1), (28, 2), (29, 1), (30, 1), (31, 1), (32, 1), (33, 2), (34, 2), (35, 1), (36, 1)] rfl (by kernel_rfl) rfl (by kernel_rfl) (fun _ _ _ h => h) ?_
      (repeat (first | refine x_p (kk := ?_) | refine x_l (kk := ?_)))
      (first | refine x_t (kk := ?_) | refine x_f (kk := ?_))
      (repeat (first | refine x_p (kk := ?_) | refine x_l (kk := ?_)))
      (first | refine x_t (kk := ?_) | refine x_f (kk := ?_))
      (repeat (first | refine x_p (kk := ?_) | refine x_R1 (kk := fun _ _ => ?_)))
      (first | refine x_t (kk := ?_) | refine x_f (kk := ?_))
      (repeat (first | refine x_p (kk := ?_) | refine x_n (kk := ?_)))
      refine OrdA.nil (fun w3 hb3 => ?_)
      skip
      refine W.condF rfl (by first | rfl | assumption | (simp; done) | (simp; omega)) ?_
      (repeat (first | refine W.exit rfl ?_))
      rw [← rg_at (by omega) (by omega)] at heq
      rw [← rg_cmp (by omega) (by omega)] at hceq
      exact W.endl ⟨_, ⟨i, rfl, Below.via hb2 hb3, hia, hib, heq, hceq, fun h => h3 h.2.2.2⟩, (by repeat (first | exact trivial | refine And.intro rfl ?_))⟩
    have f3 : ((((la.getD i default).2 : Nat) : Int) == (((lb.getD i default).2 : Nat) : Int)) = true := by rw [a2, b2, h3]; simp
    (repeat (first | with_reducible refine W.seq ?_))
    refine W.ordA 99 [(0, 1), (1, 1), (2, 1), (3, 1), (4, 1), (5, 1), (6, 1), (7, 1), (8, 1), (9, 1), (10, 1), (11, 1), (12, 1), (13, 1), (14, 1), (15, 2), (16, 1), (17, 1), (18, 1), (19, 1), (20, 2), (21, 1), (22, 1), (23, 1), (24, 1), (25, 1), (26, 1), (27, 1), (28, 2), (29, 1), (30, 1), (31, 1), (32, 1), (33, 2), (34, 2), (35, 1), (36, 1)] rfl (by kernel_rfl) rfl (by kernel_rfl) (fun _ _ _ h => h) ?_
    (repeat (first | refine x_p (kk := ?_) | refine x_l (kk := ?_)))
    (first | refine x_t (kk := ?_) | refine x_f (kk := ?_))
    (repeat (first | refine x_p (kk := ?_) | refine x_l (kk := ?_)))
    (first | refine x_t (kk := ?_) | refine x_f (kk := ?_))
    (repeat (first | refine x_p (kk := ?_) | refine x_R1 (kk := fun _ _ => ?_)))
    (first | refine x_t (kk := ?_) | refine x_f (kk := ?_))
    (repeat (first | refine x_p (kk := ?_) | refine x_R0 (kk := fun _ _ => ?_)))
    refine OrdA.call rfl rfl rfl rfl rfl rfl rfl (fun w' hw' => Calls.via hw' (refCompare_c _ (Nat.le_refl _) (aM.below (Below.via hb2 hw')) (bM.below (Below.via hb2 hw')))) ?_
    (repeat (first | refine x_p (kk := ?_)))
    refine OrdA.nil (fun w3 hb3 => ?_)
    have hb03 := Below.via hb2 hb3
    by_cases hz : cmpO (nthE a i) (nthE b i) = 0
    · rw [if_pos hz, if_pos h3] at heq
      rw [if_pos hz, if_neg (by omega), if_neg (by omega)] at hceq
      skip
      refine W.condT rfl (by first | rfl | assumption | (simp [hz]; done) | (simp; omega)) ?_
      (repeat (first | with_reducible refine Ops.nil ?_ | with_reducible refine W.region ?_ | refine z_p (kk := ?_) | refine z_a (kk := ?_) | with_reducible refine W.skip ?_ | with_reducible refine W.endb ?_ | with_reducible refine W.block ?_))
      exact W.endl ⟨_, _, ⟨⟨i + 1, rfl, rfl, hb03, by omega, by omega, heq, hceq⟩, by omega⟩, (by repeat (first | exact trivial | refine And.intro rfl ?_))⟩
    · skip
      refine W.condF rfl (by first | rfl | assumption | (simp [hz]; done) | (simp; omega)) ?_
      (repeat (first | refine W.exit rfl ?_))
      rw [← rg_at (by omega) (by omega)] at heq
      rw [← rg_cmp (by omega) (by omega)] at hceq
      exact W.endl ⟨_, ⟨i, rfl, hb03, hia, hib, heq, hceq, fun h => hz h.2.2.1⟩, (by repeat (first | exact trivial | refine And.intro rfl ?_))⟩
  rintro ρ w2 ⟨i, rfl, hb2, hia, hib, heq, hceq, hno⟩
  have hs2 := hb2.size
  have hb22 : Below w2.heap.size w2 w2 := Below.refl _ _
  have hRa2 := hRa.below hb2
  have hRb2 := hRb.below hb2
  refine W.seq ?_
  refine W.cut (fun ρ w' => ρ = [(0, .slice Aa la.length ca), (1, .slice Ab lb.length cb), (6, .int .i64 (i : Int)), (7, .slice none 0 0)] ∧ w' = w2) ?_ ?_
  · (repeat (first | with_reducible refine Ops.nil ?_ | with_reducible refine W.region ?_ | refine z_p (kk := ?_)))
    exact W.endl ⟨_, ⟨rfl, rfl⟩, (by repeat (first | exact trivial | refine And.intro rfl ?_))⟩
  rintro ρ w2' ⟨rfl, rfl⟩
  refine W.seq ?_
  refine W.cut (fun ρ w' => ∃ (i2 : Nat) (lv : Value) (l : List (Value × Nat)) (o : Od), ρ = [(1, .slice Ab lb.length cb), (6, .int .i64 (i2 : Int)), (7, lv)] ∧ Below w.heap.size w w' ∧ PR w.heap.size w' lv l ∧ OA S' w o l ∧ restG a b = appO o (dropO b i2) ∧ i2 ≤ lb.length ∧ lenO o ≤ 1) ?_ ?_
  · have hP0 : PR w.heap.size w2' (.slice none 0 0) [] := PR.nil hs2
    by_cases h1 : i < la.length
    rotate_left
    · have hq : restG a b = dropO b i := by rw [heq]; exact rg_end (.inl (by rw [show i = lenO a by omega]; exact dropO_len a))
      have f1 : decide ((i : Int) < (la.length : Int)) = false := decide_eq_false (by omega)
      (repeat (first | with_reducible refine W.seq ?_))
      refine W.ordA 99 [(0, 1), (1, 1), (2, 1), (3, 1), (4, 1), (5, 1), (6, 1), (7, 1), (8, 1), (9, 1), (10, 1), (11, 1), (12, 1), (13, 1), (14, 1), (15, 2), (16, 1), (17, 1), (18, 1), (19, 1), (20, 2), (21, 2), (22, 1), (23, 1)] rfl (by kernel_rfl) rfl (by kernel_rfl) (fun _ _ _ h => h) ?_
      (repeat (first | refine x_p (kk := ?_) | refine x_l (kk := ?_)))
      (first | refine x_t (kk := ?_) | refine x_f (kk := ?_))
      (repeat (first | refine x_p (kk := ?_) | refine x_n (kk := ?_)))
      refine OrdA.nil (fun w3 hb3 => ?_)
      skip
      refine W.condF rfl (by first | rfl | assumption | (simp; done) | (simp; omega)) ?_
      (repeat (first | with_reducible refine W.skip ?_))
      exact W.endl ⟨_, ⟨i, _, [], .nil, rfl, Below.via hb2 hb3, pr_kp hP0 (kpF hb3) (fun _ _ e => e), rfl, hq, hib, by simp [lenO]⟩, (by repeat (first | exact trivial | refine And.intro rfl ?_))⟩
    have f1 : decide ((i : Int) < (la.length : Int)) = true := decide_eq_true (by omega)
    by_cases h2 : i < lb.length
    rotate_left
    · have hq : restG a b = dropO b i := by rw [heq]; exact rg_end (.inr (by rw [show i = lenO b by omega]; exact dropO_len b))
      have f2 : decide ((i : Int) < (lb.length : Int)) = false := decide_eq_false (by omega)
      (repeat (first | with_reducible refine W.seq ?_))
      refine W.ordA 99 [(0, 1), (1, 1), (2, 1), (3, 1), (4, 1), (5, 1), (6, 1), (7, 1), (8, 1), (9, 1), (10, 1), (11, 1), (12, 1), (13, 1), (14, 1), (15, 2), (16, 1), (17, 1), (18, 1), (19, 1), (20, 2), (21, 2), (22, 1), (23, 1)] rfl (by kernel_rfl) rfl (by kernel_rfl) (fun _ _ _ h => h) ?_
      (repeat (first | refine x_p (kk := ?_) | refine x_l (kk := ?_)))
      (first | refine x_t (kk := ?_) | refine x_f (kk := ?_))
      (repeat (first | refine x_p (kk := ?_) | refine x_l (kk := ?_)))
      (first | refine x_t (kk := ?_) | refine x_f (kk := ?_))
      (repeat (first | refine x_p (kk := ?_) | refine x_n (kk := ?_)))
      refine OrdA.nil (fun w3 hb3 => ?_)
      skip
      refine W.condF rfl (by first | rfl | assumption | (simp; done) | (simp; omega)) ?_
      (repeat (first | with_reducible refine W.skip ?_))
      exact W.endl ⟨_, ⟨i, _, [], .nil, rfl, Below.via hb2 hb3, pr_kp hP0 (kpF hb3) (fun _ _ e => e), rfl, hq, hib, by simp [lenO]⟩, (by repeat (first | exact trivial | refine And.intro rfl ?_))⟩
    have f2 : decide ((i : Int) < (lb.length : Int)) = true := decide_eq_true (by omega)
    obtain ⟨a2, aM⟩ := hAa.at_ (i := i) (by omega)
    obtain ⟨b2, bM⟩ := hAb.at_ (i := i) (by omega)
    rw [rg_at (by omega) (by omega)] at heq
    rw [rg_cmp (by omega) (by omega)] at hceq
    have hb1c := bM.one
    obtain ⟨m1, m2⟩ := nth_most (o := b) (i := i) (by omega)
    obtain ⟨m3, m4⟩ := nth_most (o := a) (i := i) (by omega)
    (repeat (first | with_reducible refine W.seq ?_))
    refine W.ordA 99 [(0, 1), (1, 1), (2, 1), (3, 1), (4, 1), (5, 1), (6, 1), (7, 1), (8, 1), (9, 1), (10, 1), (11, 1), (12, 1), (13, 1), (14, 1), (15, 2), (16, 1), (17, 1), (18, 1), (19, 1), (20, 2), (21, 2), (22, 1), (23, 1)] rfl (by kernel_rfl) rfl (by kernel_rfl) (fun _ _ _ h => h) ?_
    (repeat (first | refine x_p (kk := ?_) | refine x_l (kk := ?_)))
    (first | refine x_t (kk := ?_) | refine x_f (kk := ?_))
    (repeat (first | refine x_p (kk := ?_) | refine x_l (kk := ?_)))
    (first | refine x_t (kk := ?_) | refine x_f (kk := ?_))
    (repeat (first | refine x_p (kk := ?_) | refine x_R0 (kk := fun _ _ => ?_)))
    refine OrdA.call rfl rfl rfl rfl rfl rfl rfl (fun w' hw' => Calls.via hw' (refCompare_c _ (Nat.le_refl _) (aM.below (Below.via hb2 hw')) (bM.below (Below.via hb2 hw')))) ?_
    (repeat (first | refine x_p (kk := ?_)))
    refine OrdA.nil (fun w3 hb3 => ?_)
    have hb03 := Below.via hb2 hb3
    have hP3 := pr_kp hP0 (kpF hb3) (fun _ _ e => e)
    have hRa3 := hRa.below hb03
    have hRb3 := hRb.below hb03
    have hb33 : Below w3.heap.size w3 w3 := Below.refl _ _
    by_cases hz : cmpO (nthE a i) (nthE b i) = 0
    · have h3 : ¬ nthC a i = nthC b i := fun h => hno ⟨h1, h2, hz, h⟩
      rw [if_pos hz, if_neg h3] at heq
      rw [if_pos hz] at hceq
      have hlt : nthC a i < nthC b i := by
        apply Classical.byContradiction
        intro hn
        rw [if_neg hn, if_pos (by omega)] at hceq
        omega
      clear hRa2 hRb2 hb22
      skip
      refine W.condT rfl (by first | rfl | assumption | (simp [hz]; done) | (simp; omega)) ?_
      generalize hvb : (lb.getD i default).1 = vb0 at *
      (repeat (first | with_reducible refine W.seq ?_))
      refine W.ordA 18 [(0, 1), (1, 1), (2, 1), (3, 1), (4, 1), (5, 2), (6, 1), (7, 1), (8, 1), (9, 1), (10, 2), (11, 1), (12, 1), (13, 1), (14, 1), (15, 2), (16, 1), (17, 1), (18, 0), (19, 0), (20, 1)] rfl (by kernel_rfl) rfl (by kernel_rfl) (fun _ _ _ h => h) ?_
      (repeat (first | refine x_p (kk := ?_) | refine x_a (kk := ?_) | refine x_R0 (kk := fun _ _ => ?_) | refine x_R1 (kk := fun _ _ => ?_)))
      rw [hvb, a2, b2]
      skip
      rw [show ((nthC b i : Nat) : Int) - ((nthC a i : Nat) : Int) = ((nthC b i - nthC a i : Nat) : Int) by omega]
      refine x_ev rfl (fun _ => EV.bld2 rfl rfl rfl rfl rfl hb1c rfl) (kk := ?_)
      refine OrdA.tail (fun w6 hb6 => ?_)
      have hb06 := Below.via hb03 hb6
      have hP6 := pr_kp hP3 (kpF hb6) (fun _ _ e => e)
      refine VW.Ord.pushP (z := (vb0, nthC b i - nthC a i)) rfl rfl rfl rfl rfl rfl rfl rfl rfl rfl rfl rfl rfl (fun _ => rfl) hb1c rfl hP6.2 (by simp only [List.length_nil]; omega) (fun lv' p w7 hO7b k7 hn7 => ?_)
      have hP7 := pr_put hP6 (tr_size hP6.1) hO7b k7.size
      (repeat (first | refine y_p (kk := ?_)))
      refine VW.Ord.nil ?_
      (repeat (first | with_reducible refine Ops.nil ?_ | with_reducible refine W.region ?_ | refine z_p (kk := ?_) | refine z_a (kk := ?_)))
      refine W.endl ⟨_, ⟨i + 1, lv', _, .cons (nthE b i) (nthC b i - nthC a i) .nil, rfl, Below.put hb06 k7 (fun j hj => pr_ge hP6 j hj), hP7, ?_, heq, by omega, by simp [lenO]⟩, (by repeat (first | exact trivial | refine And.intro rfl ?_))⟩
      obtain ⟨le', q1, q2⟩ := bM
      exact ⟨vb0, [], le', rfl, q1, q2, rfl⟩
    · rw [if_neg hz] at heq
      skip
      refine W.condF rfl (by first | rfl | assumption | (simp [hz]; done) | (simp; omega)) ?_
      (repeat (first | with_reducible refine W.skip ?_))
      exact W.endl ⟨_, ⟨i, _, [], .nil, rfl, hb03, hP3, rfl, heq, hib, by simp [lenO]⟩, (by repeat (first | exact trivial | refine And.intro rfl ?_))⟩
  rintro ρ w5 ⟨i2, lv, l, o, rfl, hb5, hP5, hOA, hfin, hi2, ho1⟩
  have hRd := (hRb.slD (q := i2) hi2).below hb5
  have hAd := hAb.drop i2
  have hlo := hOA.len
  have hld : (lb.drop i2).length ≤ lb.length := by rw [List.length_drop]; omega
  (repeat (first | with_reducible refine W.seq ?_ | with_reducible refine W.region ?_ | refine z_p (kk := ?_)))
  refine z_ev (EV.slP (q := i2) rfl rfl rfl rfl rfl hi2) (kk := ?_)
  refine Ops.appP rfl rfl rfl rfl rfl rfl rfl rfl rfl hP5.2 hRd (OA_one hAd) (by omega) (fun v6 w6 hO6 k6 hn6 => ?_)
  have hP6 := pr_put hP5 (tr_size hP5.1) hO6 k6.size
  have hb06 := Below.put hb5 k6 (fun j hj => pr_ge hP5 j hj)
  have hOA6 := OA_app hOA hAd
  rw [← hfin] at hOA6
  have hM6 : OM S' w6 v6 (restG a b) := ⟨_, pr_R2 hP6 (by rw [List.length_append]; omega) (fun j hj h => by have := pr_ge hP6 j hj; have := hS j h; omega), hOA6.kp (kpF hb06) (fun _ e => e.elim)⟩
  (repeat (first | with_reducible refine Ops.nil ?_ | refine z_p (kk := ?_)))
  exact W.fret rfl ⟨.inr ⟨hgt, v6, rfl, hM6⟩, hb06⟩
end Go.Proofs.YtcmjlmnfdncajaaGreatDoor
/- Elements of two cells, read in a region drawn in some order with calls amid. -/
namespace Go.Proofs.YtcmjlmnfdncajaaGreatDoor.VW
open Go Go.RowKit
section
variable {P : Program} [hT : Tab P] {n : Nat} {ds : List Deferred} {Φ : Post} {k : List It} {ρ : E} {w : World} {all : Array Oper} {F : World → Prop} {π : List Nat} {L : List Bool}
theorem f_R0 {S : Nat → Prop} {i1 i2 i3 d1 d2 d3 t t' t'' e sz : Nat} {o1 o2 o3 : Oper} {x y : Operand} {v : Value} {i : Nat} {xs : List (Value × Nat)} {w0 : World} {c1 c2 c3 : Bool}
    (e1 : all[i1]? = some o1 := by exact rfl) (h1 : o1.op = .indexAddr t x y := by exact rfl) (hd1 : o1.dst = some d1 := by exact rfl) (hg1 : gdB all ρ o1.guard = some c1 := by exact rfl) (hc1 : c1 = true := by exact rfl)
    (e2 : all[i2]? = some o2 := by exact rfl) (h2 : o2.op = .fieldAddr t' (.tmp d1) 0 := by exact rfl) (hd2 : o2.dst = some d2 := by exact rfl) (hg2 : ∀ p, gdB all ((d1, .pointer p) :: ρ) o2.guard = some c2 := by exact fun _ => rfl) (hc2 : c2 = true := by exact rfl)
    (e3 : all[i3]? = some o3 := by exact rfl) (h3 : o3.op = .load t'' (.tmp d2) := by exact rfl) (hd3 : o3.dst = some d3 := by exact rfl) (hg3 : ∀ p q, gdB all ((d2, .pointer q) :: (d1, .pointer p) :: ρ) o3.guard = some c3 := by exact fun _ _ => rfl) (hc3 : c3 = true := by exact rfl)
    (ht : tyD P t = some (.slice e) := by exact rfl) (hs : tyS P e = some 2 := by exact rfl) (hf : fieldOff P t' 0 = some (0, sz + 1) := by exact rfl) (ha : tyAgg P t'' = some false := by exact rfl) (hx : ev ρ x = some v := by exact rfl) (hy : ev ρ y = some (.int .i64 (i : Int)) := by exact rfl) (hR : R2 S w0 v xs := by assumption)
    (hF : ∀ w, F w → Below w0.heap.size w0 w := by first | exact fun _ h => h | (intro _ h; exact Below.via (by assumption) h)) (hi : i < xs.length := by omega) (p1 : freeB all L i1 = true := by kernel_rfl) (p2 : freeB all (L.set i1 true) i2 = true := by kernel_rfl) (p3 : freeB all ((L.set i1 true).set i2 true) i3 = true := by kernel_rfl)
    (kk : ∀ p q, OrdF P n ds all k Φ F π (((L.set i1 true).set i2 true).set i3 true) ((d3, (xs.getD i default).1) :: (d2, .pointer q) :: (d1, .pointer p) :: ρ) w) : OrdF P n ds all k Φ F (i1 :: i2 :: i3 :: π) L ρ w := by
  obtain ⟨a, c, rfl, q1, q2⟩ := at2 hR hi
  refine OrdF.take p1 e1 hd1 hg1 hc1 (fun w _ => EV.idx h1 ht hs hx hy (by omega) (by omega)) ?_
  refine OrdF.take p2 e2 hd2 (hg2 _) hc2 (fun w _ => EV.fld h2 hf (ev_top _ _ _)) ?_
  refine OrdF.take p3 e3 hd3 (hg3 _ _) hc3 (fun w hw => EV.ld h3 ha (ev_top _ _ _) ?_) (kk _ _)
  rw [show ∀ p : Addr, p.add 0 = p from fun p => by simp [Addr.add], Int.toNat_natCast]
  exact cell_kp (Kp.of_below (S := fun _ => False) (hF w hw)) q1 (fun e => e)
theorem f_R1 {S : Nat → Prop} {i1 i2 i3 d1 d2 d3 t t' t'' e sz : Nat} {o1 o2 o3 : Oper} {x y : Operand} {v : Value} {i : Nat} {xs : List (Value × Nat)} {w0 : World} {c1 c2 c3 : Bool}
    (e1 : all[i1]? = some o1 := by exact rfl) (h1 : o1.op = .indexAddr t x y := by exact rfl) (hd1 : o1.dst = some d1 := by exact rfl) (hg1 : gdB all ρ o1.guard = some c1 := by exact rfl) (hc1 : c1 = true := by exact rfl)
    (e2 : all[i2]? = some o2 := by exact rfl) (h2 : o2.op = .fieldAddr t' (.tmp d1) 1 := by exact rfl) (hd2 : o2.dst = some d2 := by exact rfl) (hg2 : ∀ p, gdB all ((d1, .pointer p) :: ρ) o2.guard = some c2 := by exact fun _ => rfl) (hc2 : c2 = true := by exact rfl)
    (e3 : all[i3]? = some o3 := by exact rfl) (h3 : o3.op = .load t'' (.tmp d2) := by exact rfl) (hd3 : o3.dst = some d3 := by exact rfl) (hg3 : ∀ p q, gdB all ((d2, .pointer q) :: (d1, .pointer p) :: ρ) o3.guard = some c3 := by exact fun _ _ => rfl) (hc3 : c3 = true := by exact rfl)
    (ht : tyD P t = some (.slice e) := by exact rfl) (hs : tyS P e = some 2 := by exact rfl) (hf : fieldOff P t' 1 = some (1, sz + 1) := by exact rfl) (ha : tyAgg P t'' = some false := by exact rfl) (hx : ev ρ x = some v := by exact rfl) (hy : ev ρ y = some (.int .i64 (i : Int)) := by exact rfl) (hR : R2 S w0 v xs := by assumption)
    (hF : ∀ w, F w → Below w0.heap.size w0 w := by first | exact fun _ h => h | (intro _ h; exact Below.via (by assumption) h)) (hi : i < xs.length := by omega) (p1 : freeB all L i1 = true := by kernel_rfl) (p2 : freeB all (L.set i1 true) i2 = true := by kernel_rfl) (p3 : freeB all ((L.set i1 true).set i2 true) i3 = true := by kernel_rfl)
    (kk : ∀ p q, OrdF P n ds all k Φ F π (((L.set i1 true).set i2 true).set i3 true) ((d3, .int .i64 ((xs.getD i default).2 : Int)) :: (d2, .pointer q) :: (d1, .pointer p) :: ρ) w) : OrdF P n ds all k Φ F (i1 :: i2 :: i3 :: π) L ρ w := by
  obtain ⟨a, c, rfl, q1, q2⟩ := at2 hR hi
  refine OrdF.take p1 e1 hd1 hg1 hc1 (fun w _ => EV.idx h1 ht hs hx hy (by omega) (by omega)) ?_
  refine OrdF.take p2 e2 hd2 (hg2 _) hc2 (fun w _ => EV.fld h2 hf (ev_top _ _ _)) ?_
  refine OrdF.take p3 e3 hd3 (hg3 _ _) hc3 (fun w hw => EV.ld h3 ha (ev_top _ _ _) ?_) (kk _ _)
  rw [Int.toNat_natCast]
  exact cell_kp (Kp.of_below (S := fun _ => False) (hF w hw)) q2 (fun e => e)
end
end Go.Proofs.YtcmjlmnfdncajaaGreatDoor.VW
namespace Go.Proofs.YtcmjlmnfdncajaaGreatDoor
open Go Go.RowKit Go.Proofs.YtcmjlmnfdncajaaGreatDoor.VW Go.Proofs.YtcmjlmnfdncajaaGreatDoor.TW
attribute [local irreducible] W Ops OrdA VW.Ord OrdX Wi OpsI OrdF
def kindR (s : List UInt8) : Except Int Nat := match rdA s with
  | none => .error 4
  | some a => .ok (kindO a)
def outK : Except Int Nat → Int
  | .ok x => (x : Int)
  | .error _ => 0
theorem Kind1_c {w : World} {b0 b3 : Nat} {s : List UInt8} (hs : s.length ≤ 4294967295) (B0 : Blk w b0 #[S s] 9) (B3 : Blk w b3 #[.int .i64 0] 3) :
    Calls Tryz.prog 74 #[.pointer (some ⟨b0, 0, none⟩), .pointer (some ⟨b3, 0, none⟩)] w
      (RetP (fun _ w' => Kp (fun i => i = b3) w w' ∧ ∃ x, kindR s = .ok x ∧ Blk w' b3 #[.int .i64 (x : Int)] 3) (fun ch w' => ∃ e, ch = trb e ∧ Kp (fun i => i = b3) w w' ∧ kindR s = .error e ∧ Kp (fun _ => False) w w')) := by
  refine calls_WP (vs := [_, _]) Tryz.func74 rfl (by kernel_rfl) rfl ?_
  (repeat (first | with_reducible refine W.region ?_ | refine z_d (kk := ?_)))
  refine Ops.callP rfl rfl rfl rfl rfl (readOrdinal_c hs) (fun va w1 hR => ?_) (fun ch w1 hR => ?_)
  rotate_left
  · obtain ⟨rfl, h1, hb1⟩ := hR
    exact ⟨4, rfl, (kpF hb1).mono (fun _ _ e => e.elim), by unfold kindR; rw [h1], kpF hb1⟩
  obtain ⟨a, ha, hA, hb1⟩ := hR
  have B31 := B3.kp (kpF hb1) (fun e => e)
  skip
  refine Ops.callS rfl rfl rfl rfl rfl (kind_c hA) ?_
  refine Ops.st rfl rfl rfl rfl rfl rfl rfl B31 (by simp) (fun w4 hu => ?_)
  (repeat (first | with_reducible refine Ops.nil ?_))
  refine W.fendP rfl ⟨((kpF hb1).trans hu.kp).mono (fun _ _ e => by rcases e with e | e; exact e.elim; exact e), kindO a, ?_, by simpa using hu.blk⟩
  unfold kindR
  rw [ha]
theorem Kind_c {w : World} {s : List UInt8} (hs : s.length ≤ 4294967295) :
    Calls Tryz.prog 24 #[S s] w (Ret fun r w' => r = .tuple #[.int .i64 (outK (kindR s)), .int .i64 (outE (kindR s))] ∧ Below w.heap.size w w') := by
  refine calls_W (vs := [_]) Tryz.func24 rfl (by kernel_rfl) rfl ?_
  (repeat (first | with_reducible refine W.seq ?_ | with_reducible refine W.region ?_))
  refine Ops.box rfl rfl rfl rfl (fun w1 b0 hM1 => ?_)
  refine Ops.alloc rfl rfl rfl rfl (fun w4 b3 hM4 => ?_)
  have hb14 := Mk.bel hM4
  have hb04 := Below.via (Mk.bel hM1) hb14
  have B0 : Blk w4 b0 #[S s] 9 := Blk.kp (w := w1) (hM1.at_) (kpF hb14) (fun e => e)
  have B3 : Blk w4 b3 #[.int .i64 0] 3 := hM4.at_
  have e3 := hM4.r_eq
  have l3 := B3.lt
  have hw03 := (Mk.bel hM1).size
  (repeat (first | with_reducible refine W.seq ?_ | with_reducible refine Ops.nil ?_ | with_reducible refine W.region ?_ | refine z_p (kk := ?_)))
  refine Ops.call rfl rfl rfl rfl rfl (guard_c (F := 74) (caps := [.pointer (some ⟨b0, 0, none⟩), .pointer (some ⟨b3, 0, none⟩)]) (T := fun i => i = b3) (N := fun _ w' => ∃ x, kindR s = .ok x ∧ Blk w' b3 #[.int .i64 (x : Int)] 3) (E' := fun w1 w' e => kindR s = .error e ∧ Kp (fun _ => False) w1 w') rfl (fun i h => by omega) (fun w5 hlt hb5 => Kind1_c hs (B0.kp (kpF hb5) (fun e => e)) (B3.kp (kpF hb5) (fun e => e)))) (fun r w' hR => ?_)
  obtain ⟨w5, w6, hlt, hb5, k56, k67, hor⟩ := hR
  have hfin : ∃ x e, x = outK (kindR s) ∧ e = outE (kindR s) ∧ r = .int .i64 e ∧ Blk w' b3 #[.int .i64 x] 3 := by
    rcases hor with ⟨rfl, x, h1, h2⟩ | ⟨e, rfl, h1, h2⟩
    · exact ⟨x, 0, by rw [h1]; rfl, by rw [h1]; rfl, rfl, h2.kp k67 (fun h => by omega)⟩
    · exact ⟨0, e, by rw [h1]; rfl, by rw [h1]; rfl, rfl, ((B3.kp (kpF hb5) (fun e => e)).kp h2 (fun e => e)).kp k67 (fun h => by omega)⟩
  obtain ⟨x, e, hx, he, rfl, B3'⟩ := hfin
  have hb0' : Below w.heap.size w w' := Below.put (Below.put (Below.via hb04 hb5) k56 (fun i h => by omega)) k67 (fun i h => by omega)
  have hbww : Below w'.heap.size w' w' := Below.refl _ _
  rw [← hx, ← he]
  (repeat (first | with_reducible refine W.seq ?_ | with_reducible refine Ops.nil ?_ | with_reducible refine W.region ?_ | refine z_p (kk := ?_) | refine z_d (kk := ?_)))
  refine Ops.st rfl rfl rfl rfl rfl rfl rfl B3' (by simp) (fun w7 hu => ?_)
  have B7 : Blk w7 b3 #[.int .i64 x] 3 := by simpa using hu.blk
  (repeat (first | with_reducible refine Ops.nil ?_ | refine z_p (kk := ?_)))
  exact W.fretW (vs := [_, _]) ⟨_, _, rfl, ⟨b3, 0, _, 3, rfl, rfl, B7, rfl⟩, _, _, rfl, rfl, rfl⟩ ⟨rfl, Below.put hb0' hu.kp (fun i h => by omega)⟩
def stepR (s : List UInt8) (n : Int) : Except Int (List UInt8) := match rdA s with
  | none => .error 4
  | some a => if 0 ≤ n ∧ n ≤ 1000 then (if kindO a = 0 then .error 6 else if bigT (stepO a n.toNat) = true then .error 5 else .ok (txO (stepO a n.toNat))) else .error 2
set_option maxHeartbeats 2000000 in
theorem Step1_c {w : World} {b0 b1 b3 : Nat} {s : List UInt8} {n : Int} (hs : s.length ≤ 4294967295) (hT : Tbl w) (B0 : Blk w b0 #[S s] 9) (B1 : Blk w b1 #[.int .i64 n] 3) (B3 : Blk w b3 #[S []] 9) :
    Calls Tryz.prog 76 #[.pointer (some ⟨b0, 0, none⟩), .pointer (some ⟨b1, 0, none⟩), .pointer (some ⟨b3, 0, none⟩)] w
      (RetP (fun _ w' => Kp (fun i => i = b3) w w' ∧ ∃ x, stepR s n = .ok x ∧ Blk w' b3 #[S x] 9) (fun ch w' => ∃ e, ch = trb e ∧ Kp (fun i => i = b3) w w' ∧ stepR s n = .error e ∧ Kp (fun _ => False) w w')) := by
  refine calls_WP (vs := [_, _, _]) Tryz.func76 rfl (by kernel_rfl) rfl ?_
  (repeat (first | with_reducible refine W.seq ?_ | with_reducible refine W.region ?_ | refine z_d (kk := ?_)))
  refine Ops.callP rfl rfl rfl rfl rfl (readOrdinal_c hs) (fun va w1 hR => ?_) (fun ch w1 hR => ?_)
  rotate_left
  · obtain ⟨rfl, h1, hb1⟩ := hR
    exact ⟨4, rfl, (kpF hb1).mono (fun _ _ e => e.elim), by unfold stepR; rw [h1], kpF hb1⟩
  obtain ⟨a, ha, hA, hb1⟩ := hR
  obtain ⟨na, sa, za⟩ := rdA_spec ha
  have B11 := B1.kp (kpF hb1) (fun e => e)
  have B31 := B3.kp (kpF hb1) (fun e => e)
  have hdef : stepR s n = if 0 ≤ n ∧ n ≤ 1000 then (if kindO a = 0 then .error 6 else if bigT (stepO a n.toNat) = true then .error 5 else .ok (txO (stepO a n.toNat))) else .error 2 := by unfold stepR; rw [ha]
  have hb11 : Below w1.heap.size w1 w1 := Below.refl _ _
  (repeat (first | with_reducible refine W.seq ?_ | with_reducible refine Ops.nil ?_ | with_reducible refine W.region ?_ | refine z_p (kk := ?_) | refine z_d (kk := ?_)))
  refine Ops.callS rfl rfl rfl rfl rfl (within_c _ _ _ _) ?_
  skip
  refine Ops.callP rfl rfl rfl rfl rfl (demand_c _ _ _) (fun r w2 hR => ?_) (fun ch w2 hR => ?_)
  rotate_left
  · obtain ⟨hb, rfl, rfl⟩ := hR
    have h2 := of_decide_eq_false hb
    exact ⟨2, rfl, (kpF hb1).mono (fun _ _ e => e.elim), by rw [hdef, if_neg h2], kpF hb1⟩
  obtain ⟨hb, hw⟩ := hR
  subst w2
  have h2 := of_decide_eq_true hb
  clear hb
  rw [if_pos h2] at hdef
  obtain ⟨m, rfl⟩ : ∃ m : Nat, n = (m : Int) := ⟨n.toNat, by omega⟩
  rw [Int.toNat_natCast] at hdef
  obtain ⟨l, hRl, hAl⟩ := id hA
  have hll := hAl.len
  obtain ⟨A, c, rfl⟩ := hRl.sh
  (repeat (first | with_reducible refine W.seq ?_ | with_reducible refine Ops.nil ?_ | with_reducible refine W.region ?_ | refine z_p (kk := ?_) | refine z_l (kk := ?_)))
  refine Ops.callP rfl rfl rfl rfl rfl (demand_c _ _ _) (fun r w2 hR => ?_) (fun ch w2 hR => ?_)
  rotate_left
  · obtain ⟨hb, rfl, rfl⟩ := hR
    have h3 := of_decide_eq_false hb
    exact ⟨6, rfl, (kpF hb1).mono (fun _ _ e => e.elim), by rw [hdef, if_pos (kind_zero.2 (lenO_zero.1 (by omega)))], kpF hb1⟩
  obtain ⟨hb, hw⟩ := hR
  subst w2
  have h3 := of_decide_eq_true hb
  clear hb
  have hne : a ≠ .nil := fun e => by have := lenO_zero.2 e; omega
  rw [if_neg (fun h => hne (kind_zero.1 h))] at hdef
  have hmo := small_most sa
  have hsm := step_most a m
  have hss := step_sz a m
  have hsq : szO a * (szO a + 1) ≤ 60 * 61 := Nat.mul_le_mul za (by omega)
  (repeat (first | with_reducible refine Ops.nil ?_ | with_reducible refine W.region ?_ | refine z_p (kk := ?_) | refine z_d (kk := ?_)))
  refine Ops.call rfl rfl rfl rfl rfl (step_c _ (S' := fun i => i < w.heap.size) (Nat.le_refl _) (by omega) hne (by omega) (by omega) (fun i hi => by have := hb1.size; omega) hA) (fun v2 w2 hR => ?_)
  obtain ⟨hM2, hb2⟩ := hR
  have hb02 := Below.via hb1 hb2
  skip
  refine Ops.callP rfl rfl rfl rfl rfl (checked_c hM2 (by omega)) (fun vc w3 hR => ?_) (fun ch w3 hR => ?_)
  rotate_left
  · obtain ⟨rfl, hbig, hb3⟩ := hR
    have k03 : Kp (fun _ => False) w w3 := kpF (Below.via hb02 hb3)
    exact ⟨5, rfl, k03.mono (fun _ _ e => e.elim), by rw [hdef, if_pos hbig], k03⟩
  obtain ⟨rfl, hbig, hb3⟩ := hR
  have hb03 := Below.via hb02 hb3
  refine Ops.call rfl rfl rfl rfl rfl (text_c _ (Nat.le_refl _) (by omega) (by omega) (hT.below hb03) (hM2.below hb3)) (fun vt w4 hR => ?_)
  obtain ⟨rfl, hb4⟩ := hR
  have hb04 := Below.via hb03 hb4
  have B34 := B3.kp (kpF hb04) (fun e => e)
  refine Ops.st rfl rfl rfl rfl rfl rfl rfl B34 (by simp) (fun w5 hu => ?_)
  (repeat (first | with_reducible refine Ops.nil ?_))
  refine W.fendP rfl ⟨((kpF hb04).trans hu.kp).mono (fun _ _ e => by rcases e with e | e; exact e.elim; exact e), txO (stepO a m), by rw [hdef, if_neg (by rw [hbig]; simp)], by simpa using hu.blk⟩
theorem Step_c {w : World} {s : List UInt8} {n : Int} (hs : s.length ≤ 4294967295) (hT : Tbl w) :
    Calls Tryz.prog 25 #[S s, .int .i64 n] w (Ret fun r w' => r = .tuple #[S (outS (stepR s n)), .int .i64 (outE (stepR s n))] ∧ Below w.heap.size w w') := by
  refine calls_W (vs := [_, _]) Tryz.func25 rfl (by kernel_rfl) rfl ?_
  (repeat (first | with_reducible refine W.seq ?_ | with_reducible refine W.region ?_))
  refine Ops.box rfl rfl rfl rfl (fun w1 b0 hM1 => ?_)
  refine Ops.box rfl rfl rfl rfl (fun w2 b1 hM2 => ?_)
  refine Ops.alloc rfl rfl rfl rfl (fun w4 b3 hM4 => ?_)
  have hb24 := Mk.bel hM4
  have hb14 := Below.via (Mk.bel hM2) hb24
  have hb04 := Below.via (Mk.bel hM1) hb14
  have B0 : Blk w4 b0 #[S s] 9 := Blk.kp (w := w1) (hM1.at_) (kpF hb14) (fun e => e)
  have B1 : Blk w4 b1 #[.int .i64 n] 3 := Blk.kp (w := w2) (hM2.at_) (kpF hb24) (fun e => e)
  have B3 : Blk w4 b3 #[S []] 9 := hM4.at_
  have e3 := hM4.r_eq
  have s1 := hM1.size
  have s2 := hM2.size
  have s4 := hM4.size
  (repeat (first | with_reducible refine W.seq ?_ | with_reducible refine Ops.nil ?_ | with_reducible refine W.region ?_ | refine z_p (kk := ?_)))
  refine Ops.call rfl rfl rfl rfl rfl (guard_c (F := 76) (caps := [.pointer (some ⟨b0, 0, none⟩), .pointer (some ⟨b1, 0, none⟩), .pointer (some ⟨b3, 0, none⟩)]) (T := fun i => i = b3) (N := fun w1 w' => ∃ x, stepR s n = .ok x ∧ Blk w' b3 #[S x] 9) (E' := fun w1 w' e => stepR s n = .error e ∧ Kp (fun _ => False) w1 w') rfl (fun i h => by omega) (fun w5 hlt hb5 => Step1_c hs (hT.below (Below.via hb04 hb5)) (B0.kp (kpF hb5) (fun e => e)) (B1.kp (kpF hb5) (fun e => e)) (B3.kp (kpF hb5) (fun e => e)))) (fun r w' hR => ?_)
  obtain ⟨w5, w6, hlt, hb5, k56, k67, hor⟩ := hR
  have hfin : ∃ x e, x = outS (stepR s n) ∧ e = outE (stepR s n) ∧ r = .int .i64 e ∧ Blk w' b3 #[S x] 9 := by
    rcases hor with ⟨rfl, x, h1, h2⟩ | ⟨e, rfl, h1, h2⟩
    · exact ⟨x, 0, by rw [h1]; rfl, by rw [h1]; rfl, rfl, h2.kp k67 (fun h => by omega)⟩
    · exact ⟨[], e, by rw [h1]; rfl, by rw [h1]; rfl, rfl, ((B3.kp (kpF hb5) (fun e => e)).kp h2 (fun e => e)).kp k67 (fun h => by omega)⟩
  obtain ⟨x, e, hx, he, rfl, B3'⟩ := hfin
  have hb0' : Below w.heap.size w w' := Below.put (Below.put (Below.via hb04 hb5) k56 (fun i h => by omega)) k67 (fun i h => by omega)
  have hbww : Below w'.heap.size w' w' := Below.refl _ _
  rw [← hx, ← he]
  (repeat (first | with_reducible refine W.seq ?_ | with_reducible refine Ops.nil ?_ | with_reducible refine W.region ?_ | refine z_p (kk := ?_) | refine z_d (kk := ?_)))
  refine Ops.st rfl rfl rfl rfl rfl rfl rfl B3' (by simp) (fun w7 hu => ?_)
  have B7 : Blk w7 b3 #[S x] 9 := by simpa using hu.blk
  (repeat (first | with_reducible refine Ops.nil ?_ | refine z_p (kk := ?_)))
  exact W.fretW (vs := [_, _]) ⟨_, _, rfl, ⟨b3, 0, _, 9, rfl, rfl, B7, rfl⟩, _, _, rfl, rfl, rfl⟩ ⟨rfl, Below.put hb0' hu.kp (fun i h => by omega)⟩
end Go.Proofs.YtcmjlmnfdncajaaGreatDoor
/- append of zeros, elements of two cells. -/
namespace Go.Proofs.YtcmjlmnfdncajaaGreatDoor.VW
open Go Go.RowKit
section
variable {P : Program} [hT : Tab P] {n : Nat} {ds : List Deferred} {Φ : Post} {k : List It} {ρ : E} {w : World} {all : Array Oper} {l : List Oper} {md : Option (List Oper)}
theorem Ops.appZ2 {o : Oper} {d t u e by' : Nat} {x y : Operand} {z : Value} {i : Int} {kk : IntKind} (ho : o.op = .call { callee := .builtin .append, args := #[x, y], argTypes := #[t, u] }) (hd : o.dst = some d) (hg : o.guard = none)
    (ht : tyD P t = some (.slice e)) (hu : tyD P u = some (.int kk)) (hs : tyS P e = some 2) (hb : tyB P e = some (by' + 1)) (hz : tyZ P e = some z) (hzs : z.cells.size = 2) (hx : ev ρ x = some (.slice none 0 0)) (hy : ev ρ y = some (.int .i64 i)) (h0 : 0 < i) (h1 : i.toNat * (by' + 1) ≤ 140737488355328)
    (hk : ∀ r c w', w.heap.size ≤ r → i.toNat ≤ c → w'.ownsRow 0 e 2 (.slice (some ⟨r, 0, none⟩) 0 c) 0 [] → Kp (fun _ => False) w w' → Ops none P n ds all k Φ l ((d, .slice (some ⟨r, 0, none⟩) i.toNat c) :: ρ) w') : Ops none P n ds all k Φ (o :: l) ρ w := by
  obtain ⟨f, hi, h2, h3, h4⟩ := tyE_ok hs hb hz
  obtain ⟨m, rfl⟩ := Int.eq_ofNat_of_zero_le (Int.le_of_lt h0)
  simp only [Int.toNat_natCast] at h1 hk
  have hm : 0 < m := by omega
  have h5 : m ≤ m * (by' + 1) := Nat.le_mul_of_pos_right m (by omega)
  have h63 : (m : Int) ≤ 9223372036854775807 := by omega
  have hw : IntKind.i64.wrap (m : Int) = m := wrap_in ⟨by omega, h63⟩
  have hge : m ≤ grownCap w m 0 e := grownCap_ge w m 0 e
  have hle : grownCap w m 0 e ≤ maxLen := grownCap_le_maxLen w m 0 e (by simp only [maxLen]; omega)
  have hnb : ¬ (281474976710656 < (m : Int) * f.bytes) := by
    rw [h3]
    have : ((m * (by' + 1) : Nat) : Int) ≤ 281474976710656 := by omega
    push_cast at this
    push_cast
    omega
  have hnc : ¬ (281474976710656 < Builtin.nextslicecap m 0 * f.bytes) := by rw [nextslicecap_zero hm, h3]; omega
  have hn0 : ¬ (m = 0) := by omega
  have hnz : ¬ ((m : Int) < 0) := by omega
  have hn63 : ¬ (9223372036854775807 < (m : Int)) := by omega
  have hfn : (Builtin.firstCells f.size 0 (.slice none 0 0)).run P w.drew = .ok #[] w.drew := by simp [Builtin.firstCells]
  refine Ops.val hd hg (w' := w.drew.alloc (.cells (Builtin.zeroCells z.cells m ++ Builtin.zeroCells z.cells (grownCap w m 0 e - m)) e)) (v := .slice (some ⟨w.heap.size, 0, none⟩) m (grownCap w m 0 e)) (fun a hr => ?_) (hk _ _ _ (Nat.le_refl _) hge ?_ ?_)
  · simp [execOp, ho, resolve, invoke, builtin, hr.ev hx, hr.ev hy, Builtin.append_, run_und (td_slice (tyD_ok ht)), run_und (td_int (tyD_ok hu)), sizeOf, typeInfo, zeroValue, hi, h4, asInt, asIntOf, hw, hnb, hnc, hn0, hnz, hn63, Question.forced, newRow, grownCap, h2]
    rw [h2] at hfn
    rw [hfn]
    simp
    intro h
    omega
  · refine ⟨rfl, .inr ⟨w.heap.size, _, _, rfl, Nat.zero_le _, heap_alloc_new w.drew _, Nat.zero_le _, hle, ?_, rfl⟩⟩
    simp only [Array.size_append, size_zeroCells, hzs]
    omega
  · exact ⟨rfl, rfl, rfl, by simp, fun i hi _ => Below.heap_alloc w.drew _ i hi⟩
end
end Go.Proofs.YtcmjlmnfdncajaaGreatDoor.VW
