/- A part of the walk: what this seat's statements share. -/
import Derived.Test.YtcmjlmnfdncajaaGreatDoorZTowerGrowsG2
set_option linter.unusedVariables false
set_option linter.unusedSimpArgs false
set_option linter.unusedSectionVars false
namespace Go.Proofs.YtcmjlmnfdncajaaGreatDoor
open Go Go.RowKit Go.Proofs.YtcmjlmnfdncajaaGreatDoor.VW Go.Proofs.YtcmjlmnfdncajaaGreatDoor.TW
attribute [local irreducible] W Ops OrdA VW.Ord OrdX Wi OpsI OrdF
theorem sumV (x : Option Od) : ∃ e s, outE ((fullG x).map txO) = e ∧ outS ((fullG x).map txO) = s ∧ (e = 5 ∨ ∃ o, x = some o ∧ e = 0 ∧ s = txO o) := by
  cases x with
  | none => exact ⟨_, _, rfl, rfl, .inl rfl⟩
  | some o => exact ⟨_, _, rfl, rfl, .inr ⟨o, rfl, rfl, rfl⟩⟩
theorem blendV (a b : Od) : ∃ e s, outE ((blG a b).map txO) = e ∧ outS ((blG a b).map txO) = s ∧ (e = 5 ∨ (bigT (blO a b) = false ∧ e = 0 ∧ s = txO (blO a b))) := by
  unfold blG
  cases h : bigT (blO a b) with
  | true => exact ⟨_, _, rfl, rfl, .inl rfl⟩
  | false => exact ⟨_, _, rfl, rfl, .inr ⟨rfl, rfl, rfl⟩⟩
theorem prodV (a b : Od) : ∃ e s, outE ((prodF a b).map txO) = e ∧ outS ((prodF a b).map txO) = s ∧ (e = 5 ∨ ∃ o, prodC a b = some o ∧ e = 0 ∧ s = txO o) := by
  unfold prodF
  cases h : prodC a b with
  | none => exact ⟨_, _, rfl, rfl, .inl rfl⟩
  | some o => exact ⟨_, _, rfl, rfl, .inr ⟨o, rfl, rfl, rfl⟩⟩
theorem Blend_tx {w : World} {a b : Od} (ha : rdA (txO a) = some a) (hb : rdA (txO b) = some b) (la : (txO a).length ≤ 4294967295) (lb : (txO b).length ≤ 4294967295) (hT : Tbl w) :
    Calls Tryz.prog 50 #[S (txO a), S (txO b)] w (Ret fun r w' => r = .tuple #[S (outS ((blG a b).map txO)), .int .i64 (outE ((blG a b).map txO))] ∧ Below w.heap.size w w') := by
  have h := Blend_c (w := w) la lb hT
  rw [bothR_ok ha hb] at h
  exact h
theorem Product_tx {w : World} {a b : Od} (ha : rdA (txO a) = some a) (hb : rdA (txO b) = some b) (la : (txO a).length ≤ 4294967295) (lb : (txO b).length ≤ 4294967295) (hT : Tbl w) :
    Calls Tryz.prog 34 #[S (txO a), S (txO b)] w (Ret fun r w' => r = .tuple #[S (outS ((prodF a b).map txO)), .int .i64 (outE ((prodF a b).map txO))] ∧ Below w.heap.size w w') := by
  have h := Product_c (w := w) la lb hT
  rw [bothR_ok ha hb] at h
  exact h
theorem Rest_tx {w : World} {a b o : Od} (ha : rdA (txO a) = some a) (hb : rdA (txO b) = some b) (la : (txO a).length ≤ 4294967295) (lb : (txO b).length ≤ 4294967295) (hT : Tbl w) (h : restO a b = some o) :
    Calls Tryz.prog 51 #[S (txO a), S (txO b)] w (Ret fun r w' => r = .tuple #[S (txO o), .int .i64 0] ∧ Below w.heap.size w w') := by
  have h' := Rest_c (w := w) la lb hT
  rw [bothR_ok ha hb, show restF a b = .ok o by unfold restF; rw [h]] at h'
  exact h'
theorem blG_comm (a b : Od) : blG b a = blG a b := by unfold blG; rw [bl_comm b a]
theorem okS_bl {a b : Od} (ka : mostO a ≤ 24) (kb : mostO b ≤ 24) (h : bigT (blO a b) = false) : okS (blO a b) := by
  have h1 := of_decide_eq_false h
  have h2 := bl_sizes a b
  have h3 := most_eq (blO a b)
  have h4 := exM_le a
  have h5 := exM_le b
  exact ⟨by omega, by omega⟩
set_option maxHeartbeats 8000000 in
theorem grows_c {w : World} {l0 l1 l2 : List UInt8} (hT : Tbl w) : Calls Tryz.prog 11 #[.agg #[S l0, S l1, S l2]] w (Ret fun r w' => r = .bool true ∧ Below w.heap.size w w') := by
  obtain ⟨ra, la, na, oa, ma, za⟩ := ordS_tx l0
  obtain ⟨rb, lb, nb, ob, mb, zb⟩ := ordS_tx l1
  obtain ⟨rc, lc, nc, oc, mc, zc⟩ := ordS_tx l2
  generalize ha : ordS l0 = a at *
  generalize hb : ordS l1 = b at *
  generalize hc : ordS l2 = c at *
  refine calls_W (vs := [_]) Tryz.func11 rfl (by kernel_rfl) rfl ?_
  (repeat (first | with_reducible refine W.seq ?_ | with_reducible refine W.region ?_))
  refine Ops.box rfl rfl rfl rfl (fun w1 b1 hM1 => ?_)
  have B1 : Blk w1 b1 #[S l0, S l1, S l2] 33 := hM1.at_
  have hb01 := Mk.bel hM1
  (repeat (first | with_reducible refine W.seq ?_ | with_reducible refine Ops.nil ?_ | refine z_p (kk := ?_)))
  refine W.ordA 99 [(0, 1), (1, 2), (2, 2), (3, 1), (4, 2), (5, 2), (6, 1), (7, 2), (8, 2), (9, 1), (10, 1), (11, 1)] rfl (by kernel_rfl) rfl (by kernel_rfl) (fun _ _ _ h => h) ?_
  refine x_A (i := 0) (kk := fun _ => ?_)
  refine OrdA.call rfl rfl rfl rfl rfl rfl rfl (fun w' hw' => Calls.via hw' (ordS_c (s := l0))) ?_
  refine x_A (i := 1) (kk := fun _ => ?_)
  refine OrdA.call rfl rfl rfl rfl rfl rfl rfl (fun w' hw' => Calls.via hw' (ordS_c (s := l1))) ?_
  refine x_A (i := 2) (kk := fun _ => ?_)
  refine OrdA.call rfl rfl rfl rfl rfl rfl rfl (fun w' hw' => Calls.via hw' (ordS_c (s := l2))) ?_
  rw [ha, hb, hc]
  (repeat (first | refine x_p (kk := ?_)))
  refine OrdA.nil (fun w2 hb12 => ?_)
  have hb02 := Below.via hb01 hb12
  (repeat (first | with_reducible refine W.seq ?_ | with_reducible refine W.region ?_ | refine z_p (kk := ?_)))
  refine Ops.call rfl rfl rfl rfl rfl (Sum_tx ra rb la lb (hT.below hb02)) (fun r w3 hR => ?_)
  obtain ⟨rfl, hb23⟩ := hR
  have hb03 := Below.via hb02 hb23
  obtain ⟨e1, s1, he1, hs1, h1⟩ := sumV (addC a b)
  rw [he1, hs1]
  (repeat (first | with_reducible refine W.seq ?_ | with_reducible refine Ops.nil ?_ | with_reducible refine W.region ?_ | refine z_p (kk := ?_)))
  refine Ops.call rfl rfl rfl rfl rfl (Sum_tx ra rc la lc (hT.below hb03)) (fun r w4 hR => ?_)
  obtain ⟨rfl, hb34⟩ := hR
  have hb04 := Below.via hb03 hb34
  obtain ⟨e2, s2, he2, hs2, h2⟩ := sumV (addC a c)
  rw [he2, hs2]
  (repeat (first | with_reducible refine W.seq ?_ | with_reducible refine Ops.nil ?_ | with_reducible refine W.region ?_ | refine z_p (kk := ?_)))
  refine Ops.call rfl rfl rfl rfl rfl (Compare_tx rb rc lb lc) (fun r w5 hR => ?_)
  obtain ⟨rfl, hb45⟩ := hR
  have hb05 := Below.via hb04 hb45
  (repeat (first | with_reducible refine W.seq ?_ | with_reducible refine Ops.nil ?_ | with_reducible refine W.region ?_ | refine z_p (kk := ?_)))
  refine Ops.call rfl rfl rfl rfl rfl (Blend_tx ra rb la lb (hT.below hb05)) (fun r w6 hR => ?_)
  obtain ⟨rfl, hb56⟩ := hR
  have hb06 := Below.via hb05 hb56
  obtain ⟨e3, s3, he3, hs3, h3⟩ := blendV a b
  rw [he3, hs3]
  (repeat (first | with_reducible refine W.seq ?_ | with_reducible refine Ops.nil ?_ | with_reducible refine W.region ?_ | refine z_p (kk := ?_)))
  refine Ops.call rfl rfl rfl rfl rfl (Blend_tx rb ra lb la (hT.below hb06)) (fun r w7 hR => ?_)
  obtain ⟨rfl, hb67⟩ := hR
  have hb07 := Below.via hb06 hb67
  rw [blG_comm, he3, hs3]
  clear he1 hs1 he2 hs2 he3 hs3
  have hd3 : decide (s3 = s3) = true := by simp
  refine Ops.cut (fun ρ w' => ρ = [(3, S (txO a)), (4, S (txO b)), (5, S (txO c)), (6, S s1), (7, .int .i64 e1), (8, S s2), (9, .int .i64 e2), (10, .int .i64 (cmpO b c)), (11, .int .i64 0), (12, S s3), (13, .int .i64 e3), (14, S s3), (15, .int .i64 e3)] ∧ w' = w7) ?_ ?_
  · (repeat (first | with_reducible refine Ops.nil ?_ | refine z_p (kk := ?_)))
    exact W.endl ⟨_, ⟨rfl, rfl⟩, (by repeat (first | exact trivial | refine And.intro rfl ?_))⟩
  rintro ρ w7' ⟨rfl, rfl⟩
  (repeat (first | with_reducible refine W.seq ?_ | with_reducible refine Ops.nil ?_ | with_reducible refine W.region ?_ | refine z_p (kk := ?_) | refine z_y (kk := ?_) | refine z_ev (EV.sne rfl rfl rfl rfl) (kk := ?_) | refine z_h (kk := ?_)))
  refine W.condF rfl (by first | rfl | (simp; done) | (simp; omega)) ?_
  rcases h1 with rfl | ⟨s, hs, rfl, rfl⟩ <;> rcases h2 with rfl | ⟨t, ht, rfl, rfl⟩ <;> rcases h3 with rfl | ⟨hbl, rfl, rfl⟩
  all_goals try (
    (repeat (first | with_reducible refine W.seq ?_ | with_reducible refine Ops.nil ?_ | with_reducible refine W.region ?_ | refine z_p (kk := ?_) | refine z_y (kk := ?_) | refine z_n (kk := ?_) | with_reducible refine W.skip ?_))
    refine W.condT rfl (by first | rfl | assumption | (simp only [bnf] <;> omega) | (simp only [*, bnf]; done) | fail) ?_
    (repeat (first | with_reducible refine W.seq ?_ | with_reducible refine W.region ?_ | refine z_p (kk := ?_) | refine z_y (kk := ?_) | refine z_n (kk := ?_)))
    repeat (
      refine Ops.callS rfl rfl rfl rfl rfl (full_c _ _) ?_
      (repeat (first | refine z_p (kk := ?_) | refine z_y (kk := ?_) | refine z_n (kk := ?_))))
    refine Ops.call rfl rfl rfl rfl rfl (awake_c (hT.below hb07)) (fun r wz hR => ?_)
    obtain ⟨rfl, hbz⟩ := hR
    (repeat (first | with_reducible refine Ops.nil ?_ | refine z_p (kk := ?_)))
    exact W.fret rfl ⟨rfl, Below.via hb07 hbz⟩)
  obtain ⟨e1, k1⟩ := addC_spec oa ob hs
  obtain ⟨e2, k2⟩ := addC_spec oa oc ht
  have kp := okS_bl ma mb hbl
  have ns : NF s := by rw [e1]; exact addO_NF na nb
  have nt : NF t := by rw [e2]; exact addO_NF na nc
  have np : NF (blO a b) := bl_NF na nb
  have rs : rdA (txO s) = some s := okS_rd ns k1
  have rt : rdA (txO t) = some t := okS_rd nt k2
  have rp : rdA (txO (blO a b)) = some (blO a b) := okS_rd np kp
  have c1 : cmpO s t = cmpO b c := by rw [e1, e2]; exact add_cmp na nb nc
  have c2 : restO a s = some b := by rw [e1]; exact rest_add na nb
  have c3 : cmpO a s ≤ 0 := by rw [e1]; exact leO_cmp.1 (le_add_l na nb)
  have c4 : cmpO b s ≤ 0 := by rw [e1]; exact leO_cmp.1 (le_add_r na nb)
  have c5 : cmpO s (blO a b) ≤ 0 := by rw [e1]; exact leO_cmp.1 (sum_le_bl na nb)
  (repeat (first | with_reducible refine W.seq ?_ | with_reducible refine Ops.nil ?_ | with_reducible refine W.region ?_ | refine z_p (kk := ?_) | refine z_y (kk := ?_) | with_reducible refine W.skip ?_))
  refine W.condF rfl (by first | rfl | assumption | (simp only [bnf] <;> omega) | (simp only [*, bnf]; done) | fail) ?_
  (repeat (first | with_reducible refine W.seq ?_ | with_reducible refine W.region ?_ | refine z_p (kk := ?_) | with_reducible refine W.skip ?_))
  refine Ops.call rfl rfl rfl rfl rfl (Compare_tx rs rt (tx_bd k1) (tx_bd k2)) (fun r w8 hR => ?_)
  obtain ⟨rfl, hb78⟩ := hR
  have hb08 := Below.via hb07 hb78
  rw [c1]
  (repeat (first | with_reducible refine W.seq ?_ | with_reducible refine Ops.nil ?_ | with_reducible refine W.region ?_ | refine z_p (kk := ?_)))
  refine Ops.call rfl rfl rfl rfl rfl (Rest_tx ra rs la (tx_bd k1) (hT.below hb08) c2) (fun r w9 hR => ?_)
  obtain ⟨rfl, hb89⟩ := hR
  have hb09 := Below.via hb08 hb89
  (repeat (first | with_reducible refine W.seq ?_ | with_reducible refine Ops.nil ?_ | with_reducible refine W.region ?_ | refine z_p (kk := ?_)))
  refine Ops.call rfl rfl rfl rfl rfl (Compare_tx ra rs la (tx_bd k1)) (fun r w10 hR => ?_)
  obtain ⟨rfl, hb910⟩ := hR
  have hb010 := Below.via hb09 hb910
  (repeat (first | with_reducible refine W.seq ?_ | with_reducible refine Ops.nil ?_ | with_reducible refine W.region ?_ | refine z_p (kk := ?_)))
  refine Ops.call rfl rfl rfl rfl rfl (Compare_tx rb rs lb (tx_bd k1)) (fun r w11 hR => ?_)
  obtain ⟨rfl, hb1011⟩ := hR
  have hb011 := Below.via hb010 hb1011
  (repeat (first | with_reducible refine W.seq ?_ | with_reducible refine Ops.nil ?_ | with_reducible refine W.region ?_ | refine z_p (kk := ?_)))
  refine Ops.call rfl rfl rfl rfl rfl (Compare_tx rs rp (tx_bd k1) (tx_bd kp)) (fun r w12 hR => ?_)
  obtain ⟨rfl, hb1112⟩ := hR
  have hb012 := Below.via hb011 hb1112
  generalize cmpO a s = q3 at *
  generalize cmpO b s = q4 at *
  generalize cmpO s (blO a b) = q5 at *
  generalize cmpO b c = q1 at *
  have hq1 : (q1 == q1) = true := by simp
  have hdb : decide (txO b = txO b) = true := by simp
  (repeat (first | with_reducible refine W.seq ?_ | with_reducible refine Ops.nil ?_ | with_reducible refine W.region ?_ | refine z_p (kk := ?_) | refine z_y (kk := ?_) | refine z_ev (EV.seq rfl rfl rfl rfl) (kk := ?_) | refine z_h (kk := ?_)))
  refine Ops.call rfl rfl rfl rfl rfl (awake_c (hT.below hb012)) (fun r wz hR => ?_)
  obtain ⟨rfl, hbz⟩ := hR
  (repeat (first | with_reducible refine Ops.nil ?_ | refine z_p (kk := ?_)))
  refine W.fret rfl ⟨?_, Below.via hb012 hbz⟩
  rfl
end Go.Proofs.YtcmjlmnfdncajaaGreatDoor
