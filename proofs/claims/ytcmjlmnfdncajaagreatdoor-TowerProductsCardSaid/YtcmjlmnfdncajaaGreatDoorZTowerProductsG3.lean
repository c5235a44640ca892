/- A part of the walk: what this seat's statements share. -/
import Derived.Test.YtcmjlmnfdncajaaGreatDoorZTowerProductsG2
set_option linter.unusedVariables false
set_option linter.unusedSimpArgs false
set_option linter.unusedSectionVars false
namespace Go.Proofs.YtcmjlmnfdncajaaGreatDoor
open Go Go.RowKit Go.Proofs.YtcmjlmnfdncajaaGreatDoor.VW Go.Proofs.YtcmjlmnfdncajaaGreatDoor.TW
attribute [local irreducible] W Ops OrdA VW.Ord OrdX Wi OpsI OrdF
theorem sumV (x : Option Od) : ∃ e s, outE ((fullG x).map txO) = e ∧ outS ((fullG x).map txO) = s ∧ (e = 5 ∨ ∃ o, x = some o ∧ e = 0 ∧ s = txO o) := by
  cases x with
  | none => exact ⟨_, _, rfl, rfl, .inl rfl⟩
  | some o => exact ⟨_, _, rfl, rfl, .inr ⟨o, rfl, rfl, rfl⟩⟩
theorem blendV (a b : Od) : ∃ e s, outE ((blG a b).map txO) = e ∧ outS ((blG a b).map txO) = s ∧ (e = 5 ∨ (bigT (blO a b) = false ∧ e = 0 ∧ s = txO (blO a b))) := by
  unfold blG
  cases h : bigT (blO a b) with
  | true => exact ⟨_, _, rfl, rfl, .inl rfl⟩
  | false => exact ⟨_, _, rfl, rfl, .inr ⟨rfl, rfl, rfl⟩⟩
theorem prodV (a b : Od) : ∃ e s, outE ((prodF a b).map txO) = e ∧ outS ((prodF a b).map txO) = s ∧ (e = 5 ∨ ∃ o, prodC a b = some o ∧ e = 0 ∧ s = txO o) := by
  unfold prodF
  cases h : prodC a b with
  | none => exact ⟨_, _, rfl, rfl, .inl rfl⟩
  | some o => exact ⟨_, _, rfl, rfl, .inr ⟨o, rfl, rfl, rfl⟩⟩
theorem Blend_tx {w : World} {a b : Od} (ha : rdA (txO a) = some a) (hb : rdA (txO b) = some b) (la : (txO a).length ≤ 4294967295) (lb : (txO b).length ≤ 4294967295) (hT : Tbl w) :
    Calls Tryz.prog 50 #[S (txO a), S (txO b)] w (Ret fun r w' => r = .tuple #[S (outS ((blG a b).map txO)), .int .i64 (outE ((blG a b).map txO))] ∧ Below w.heap.size w w') := by
  have h := Blend_c (w := w) la lb hT
  rw [bothR_ok ha hb] at h
  exact h
theorem Product_tx {w : World} {a b : Od} (ha : rdA (txO a) = some a) (hb : rdA (txO b) = some b) (la : (txO a).length ≤ 4294967295) (lb : (txO b).length ≤ 4294967295) (hT : Tbl w) :
    Calls Tryz.prog 34 #[S (txO a), S (txO b)] w (Ret fun r w' => r = .tuple #[S (outS ((prodF a b).map txO)), .int .i64 (outE ((prodF a b).map txO))] ∧ Below w.heap.size w w') := by
  have h := Product_c (w := w) la lb hT
  rw [bothR_ok ha hb] at h
  exact h
theorem Rest_tx {w : World} {a b o : Od} (ha : rdA (txO a) = some a) (hb : rdA (txO b) = some b) (la : (txO a).length ≤ 4294967295) (lb : (txO b).length ≤ 4294967295) (hT : Tbl w) (h : restO a b = some o) :
    Calls Tryz.prog 51 #[S (txO a), S (txO b)] w (Ret fun r w' => r = .tuple #[S (txO o), .int .i64 0] ∧ Below w.heap.size w w') := by
  have h' := Rest_c (w := w) la lb hT
  rw [bothR_ok ha hb, show restF a b = .ok o by unfold restF; rw [h]] at h'
  exact h'
theorem blG_comm (a b : Od) : blG b a = blG a b := by unfold blG; rw [bl_comm b a]
theorem okS_bl {a b : Od} (ka : mostO a ≤ 24) (kb : mostO b ≤ 24) (h : bigT (blO a b) = false) : okS (blO a b) := by
  have h1 := of_decide_eq_false h
  have h2 := bl_sizes a b
  have h3 := most_eq (blO a b)
  have h4 := exM_le a
  have h5 := exM_le b
  exact ⟨by omega, by omega⟩
set_option maxHeartbeats 8000000 in
theorem grows_c {w : World} {l0 l1 l2 : List UInt8} (hT : Tbl w) : Calls Tryz.prog 11 #[.agg #[S l0, S l1, S l2]] w (Ret fun r w' => r = .bool true ∧ Below w.heap.size w w') := by
  obtain ⟨ra, la, na, oa, ma, za⟩ := ordS_tx l0
  obtain ⟨rb, lb, nb, ob, mb, zb⟩ := ordS_tx l1
  obtain ⟨rc, lc, nc, oc, mc, zc⟩ := ordS_tx l2
  generalize ha : ordS l0 = a at *
  generalize hb : ordS l1 = b at *
  generalize hc : ordS l2 = c at *
  refine calls_W (vs := [_]) Tryz.func11 rfl (by kernel_rfl) rfl ?_
  (repeat (first | with_reducible refine W.seq ?_ | with_reducible refine W.region ?_))
  refine Ops.box rfl rfl rfl rfl (fun w1 b1 hM1 => ?_)
  have B1 : Blk w1 b1 #[S l0, S l1, S l2] 33 := hM1.at_
  have hb01 := Mk.bel hM1
  (repeat (first | with_reducible refine W.seq ?_ | with_reducible refine Ops.nil ?_ | refine z_p (kk := ?_)))
  refine W.ordA 99 [(0, 1), (1, 2), (2, 2), (3, 1), (4, 2), (5, 2), (6, 1), (7, 2), (8, 2), (9, 1), (10, 1), (11, 1)] rfl (by kernel_rfl) rfl (by kernel_rfl) (fun _ _ _ h => h) ?_
  refine x_A (i := 0) (kk := fun _ => ?_)
  refine OrdA.call rfl rfl rfl rfl rfl rfl rfl (fun w' hw' => Calls.via hw' (ordS_c (s := l0))) ?_
  refine x_A (i := 1) (kk := fun _ => ?_)
  refine OrdA.call rfl rfl rfl rfl rfl rfl rfl (fun w' hw' => Calls.via hw' (ordS_c (s := l1))) ?_
  refine x_A (i := 2) (kk := fun _ => ?_)
  refine OrdA.call rfl rfl rfl rfl rfl rfl rfl (fun w' hw' => Calls.via hw' (ordS_c (s := l2))) ?_
  rw [ha, hb, hc]
  (repeat (first | refine x_p (kk := ?_)))
  refine OrdA.nil (fun w2 hb12 => ?_)
  have hb02 := Below.via hb01 hb12
  (repeat (first | with_reducible refine W.seq ?_ | with_reducible refine W.region ?_ | refine z_p (kk := ?_)))
  refine Ops.call rfl rfl rfl rfl rfl (Sum_tx ra rb la lb (hT.below hb02)) (fun r w3 hR => ?_)
  obtain ⟨rfl, hb23⟩ := hR
  have hb03 := Below.via hb02 hb23
  obtain ⟨e1, s1, he1, hs1, h1⟩ := sumV (addC a b)
  rw [he1, hs1]
  (repeat (first | with_reducible refine W.seq ?_ | with_reducible refine Ops.nil ?_ | with_reducible refine W.region ?_ | refine z_p (kk := ?_)))
  refine Ops.call rfl rfl rfl rfl rfl (Sum_tx ra rc la lc (hT.below hb03)) (fun r w4 hR => ?_)
  obtain ⟨rfl, hb34⟩ := hR
  have hb04 := Below.via hb03 hb34
  obtain ⟨e2, s2, he2, hs2, h2⟩ := sumV (addC a c)
  rw [he2, hs2]
  (repeat (first | with_reducible refine W.seq ?_ | with_reducible refine Ops.nil ?_ | with_reducible refine W.region ?_ | refine z_p (kk := ?_)))
  refine Ops.call rfl rfl rfl rfl rfl (Compare_tx rb rc lb lc) (fun r w5 hR => ?_)
  obtain ⟨rfl, hb45⟩ := hR
  have hb05 := Below.via hb04 hb45
  (repeat (first | with_reducible refine W.seq ?_ | with_reducible refine Ops.nil ?_ | with_reducible refine W.region ?_ | refine z_p (kk := ?_)))
  refine Ops.call rfl rfl rfl rfl rfl (Blend_tx ra rb la lb (hT.below hb05)) (fun r w6 hR => ?_)
  obtain ⟨rfl, hb56⟩ := hR
  have hb06 := Below.via hb05 hb56
  obtain ⟨e3, s3, he3, hs3, h3⟩ := blendV a b
  rw [he3, hs3]
  (repeat (first | with_reducible refine W.seq ?_ | with_reducible refine Ops.nil ?_ | with_reducible refine W.region ?_ | refine z_p (kk := ?_)))
  refine Ops.call rfl rfl rfl rfl rfl (Blend_tx rb ra lb la (hT.below hb06)) (fun r w7 hR => ?_)
  obtain ⟨rfl, hb67⟩ := hR
  have hb07 := Below.via hb06 hb67
  rw [blG_comm, he3, hs3]
  clear he1 hs1 he2 hs2 he3 hs3
  have hd3 : decide (s3 = s3) = true := by simp
  refine Ops.cut (fun ρ w' => ρ = [(3, S (txO a)), (4, S (txO b)), (5, S (txO c)), (6, S s1), (7, .int .i64 e1), (8, S s2), (9, .int .i64 e2), (10, .int .i64 (cmpO b c)), (11, .int .i64 0), (12, S s3), (13, .int .i64 e3), (14, S s3), (15, .int .i64 e3)] ∧ w' = w7) ?_ ?_
  · (repeat (first | with_reducible refine Ops.nil ?_ | refine z_p (kk := ?_)))
    exact W.endl ⟨_, ⟨rfl, rfl⟩, (by repeat (first | exact trivial | refine And.intro rfl ?_))⟩
  rintro ρ w7' ⟨rfl, rfl⟩
  (repeat (first | with_reducible refine W.seq ?_ | with_reducible refine Ops.nil ?_ | with_reducible refine W.region ?_ | refine z_p (kk := ?_) | refine z_y (kk := ?_) | refine z_ev (EV.sne rfl rfl rfl rfl) (kk := ?_) | refine z_h (kk := ?_)))
  refine W.condF rfl (by first | rfl | (simp; done) | (simp; omega)) ?_
  rcases h1 with rfl | ⟨s, hs, rfl, rfl⟩ <;> rcases h2 with rfl | ⟨t, ht, rfl, rfl⟩ <;> rcases h3 with rfl | ⟨hbl, rfl, rfl⟩
  all_goals try (
    (repeat (first | with_reducible refine W.seq ?_ | with_reducible refine Ops.nil ?_ | with_reducible refine W.region ?_ | refine z_p (kk := ?_) | refine z_y (kk := ?_) | refine z_n (kk := ?_) | with_reducible refine W.skip ?_))
    refine W.condT rfl (by first | rfl | assumption | (simp only [bnf] <;> omega) | (simp only [*, bnf]; done) | fail) ?_
    (repeat (first | with_reducible refine W.seq ?_ | with_reducible refine W.region ?_ | refine z_p (kk := ?_) | refine z_y (kk := ?_) | refine z_n (kk := ?_)))
    repeat (
      refine Ops.callS rfl rfl rfl rfl rfl (full_c _ _) ?_
      (repeat (first | refine z_p (kk := ?_) | refine z_y (kk := ?_) | refine z_n (kk := ?_))))
    refine Ops.call rfl rfl rfl rfl rfl (awake_c (hT.below hb07)) (fun r wz hR => ?_)
    obtain ⟨rfl, hbz⟩ := hR
    (repeat (first | with_reducible refine Ops.nil ?_ | refine z_p (kk := ?_)))
    exact W.fret rfl ⟨rfl, Below.via hb07 hbz⟩)
  obtain ⟨e1, k1⟩ := addC_spec oa ob hs
  obtain ⟨e2, k2⟩ := addC_spec oa oc ht
  have kp := okS_bl ma mb hbl
  have ns : NF s := by rw [e1]; exact addO_NF na nb
  have nt : NF t := by rw [e2]; exact addO_NF na nc
  have np : NF (blO a b) := bl_NF na nb
  have rs : rdA (txO s) = some s := okS_rd ns k1
  have rt : rdA (txO t) = some t := okS_rd nt k2
  have rp : rdA (txO (blO a b)) = some (blO a b) := okS_rd np kp
  have c1 : cmpO s t = cmpO b c := by rw [e1, e2]; exact add_cmp na nb nc
  have c2 : restO a s = some b := by rw [e1]; exact rest_add na nb
  have c3 : cmpO a s ≤ 0 := by rw [e1]; exact leO_cmp.1 (le_add_l na nb)
  have c4 : cmpO b s ≤ 0 := by rw [e1]; exact leO_cmp.1 (le_add_r na nb)
  have c5 : cmpO s (blO a b) ≤ 0 := by rw [e1]; exact leO_cmp.1 (sum_le_bl na nb)
  (repeat (first | with_reducible refine W.seq ?_ | with_reducible refine Ops.nil ?_ | with_reducible refine W.region ?_ | refine z_p (kk := ?_) | refine z_y (kk := ?_) | with_reducible refine W.skip ?_))
  refine W.condF rfl (by first | rfl | assumption | (simp only [bnf] <;> omega) | (simp only [*, bnf]; done) | fail) ?_
  (repeat (first | with_reducible refine W.seq ?_ | with_reducible refine W.region ?_ | refine z_p (kk := ?_) | with_reducible refine W.skip ?_))
  refine Ops.call rfl rfl rfl rfl rfl (Compare_tx rs rt (tx_bd k1) (tx_bd k2)) (fun r w8 hR => ?_)
  obtain ⟨rfl, hb78⟩ := hR
  have hb08 := Below.via hb07 hb78
  rw [c1]
  (repeat (first | with_reducible refine W.seq ?_ | with_reducible refine Ops.nil ?_ | with_reducible refine W.region ?_ | refine z_p (kk := ?_)))
  refine Ops.call rfl rfl rfl rfl rfl (Rest_tx ra rs la (tx_bd k1) (hT.below hb08) c2) (fun r w9 hR => ?_)
  obtain ⟨rfl, hb89⟩ := hR
  have hb09 := Below.via hb08 hb89
  (repeat (first | with_reducible refine W.seq ?_ | with_reducible refine Ops.nil ?_ | with_reducible refine W.region ?_ | refine z_p (kk := ?_)))
  refine Ops.call rfl rfl rfl rfl rfl (Compare_tx ra rs la (tx_bd k1)) (fun r w10 hR => ?_)
  obtain ⟨rfl, hb910⟩ := hR
  have hb010 := Below.via hb09 hb910
  (repeat (first | with_reducible refine W.seq ?_ | with_reducible refine Ops.nil ?_ | with_reducible refine W.region ?_ | refine z_p (kk := ?_)))
  refine Ops.call rfl rfl rfl rfl rfl (Compare_tx rb rs lb (tx_bd k1)) (fun r w11 hR => ?_)
  obtain ⟨rfl, hb1011⟩ := hR
  have hb011 := Below.via hb010 hb1011
  (repeat (first | with_reducible refine W.seq ?_ | with_reducible refine Ops.nil ?_ | with_reducible refine W.region ?_ | refine z_p (kk := ?_)))
  refine Ops.call rfl rfl rfl rfl rfl (Compare_tx rs rp (tx_bd k1) (tx_bd kp)) (fun r w12 hR => ?_)
  obtain ⟨rfl, hb1112⟩ := hR
  have hb012 := Below.via hb011 hb1112
  generalize cmpO a s = q3 at *
  generalize cmpO b s = q4 at *
  generalize cmpO s (blO a b) = q5 at *
  generalize cmpO b c = q1 at *
  have hq1 : (q1 == q1) = true := by simp
  have hdb : decide (txO b = txO b) = true := by simp
  (repeat (first | with_reducible refine W.seq ?_ | with_reducible refine Ops.nil ?_ | with_reducible refine W.region ?_ | refine z_p (kk := ?_) | refine z_y (kk := ?_) | refine z_ev (EV.seq rfl rfl rfl rfl) (kk := ?_) | refine z_h (kk := ?_)))
  refine Ops.call rfl rfl rfl rfl rfl (awake_c (hT.below hb012)) (fun r wz hR => ?_)
  obtain ⟨rfl, hbz⟩ := hR
  (repeat (first | with_reducible refine Ops.nil ?_ | refine z_p (kk := ?_)))
  refine W.fret rfl ⟨?_, Below.via hb012 hbz⟩
  rfl
end Go.Proofs.YtcmjlmnfdncajaaGreatDoor
namespace Go.Proofs.YtcmjlmnfdncajaaGreatDoor
open Go Go.RowKit Go.Proofs.YtcmjlmnfdncajaaGreatDoor.VW Go.Proofs.YtcmjlmnfdncajaaGreatDoor.TW
attribute [local irreducible] W Ops OrdA VW.Ord OrdX Wi OpsI OrdF
theorem Product_to {w : World} {a b o : Od} (ha : rdA (txO a) = some a) (hb : rdA (txO b) = some b) (la : (txO a).length ≤ 4294967295) (lb : (txO b).length ≤ 4294967295) (hT : Tbl w) (h : prodC a b = some o) {s t : List UInt8} (hs : txO a = s) (ht : txO b = t) :
    Calls Tryz.prog 34 #[S s, S t] w (Ret fun r w' => r = .tuple #[S (txO o), .int .i64 0] ∧ Below w.heap.size w w') := by
  have h' := Product_tx (w := w) ha hb la lb hT
  rw [show prodF a b = .ok o by unfold prodF; rw [h]] at h'
  subst hs; subst ht
  exact h'
theorem rd_nil : rdA (txO .nil) = some .nil := by rfl
theorem rd_one : rdA (txO oneO) = some oneO := by rfl
set_option maxHeartbeats 16000000 in
theorem products_c {w : World} {l0 l1 l2 : List UInt8} (hT : Tbl w) : Calls Tryz.prog 6 #[.agg #[S l0, S l1, S l2]] w (Ret fun r w' => r = .bool true ∧ Below w.heap.size w w') := by
  obtain ⟨ra, la, na, oa, ma, za⟩ := ordS_tx l0
  obtain ⟨rb, lb, nb, ob, mb, zb⟩ := ordS_tx l1
  obtain ⟨rc, lc, nc, oc, mc, zc⟩ := ordS_tx l2
  generalize ha : ordS l0 = a at *
  generalize hb : ordS l1 = b at *
  generalize hc : ordS l2 = c at *
  refine calls_W (vs := [_]) Tryz.func6 rfl (by kernel_rfl) rfl ?_
  (repeat (first | with_reducible refine W.seq ?_ | with_reducible refine W.region ?_))
  refine Ops.box rfl rfl rfl rfl (fun w1 b1 hM1 => ?_)
  have B1 : Blk w1 b1 #[S l0, S l1, S l2] 33 := hM1.at_
  have hb01 := Mk.bel hM1
  (repeat (first | with_reducible refine W.seq ?_ | with_reducible refine Ops.nil ?_ | refine z_p (kk := ?_)))
  refine W.ordA 99 [(0, 1), (1, 2), (2, 2), (3, 1), (4, 2), (5, 2), (6, 1), (7, 2), (8, 2), (9, 1), (10, 1), (11, 1)] rfl (by kernel_rfl) rfl (by kernel_rfl) (fun _ _ _ h => h) ?_
  refine x_A (i := 0) (kk := fun _ => ?_)
  refine OrdA.call rfl rfl rfl rfl rfl rfl rfl (fun w' hw' => Calls.via hw' (ordS_c (s := l0))) ?_
  refine x_A (i := 1) (kk := fun _ => ?_)
  refine OrdA.call rfl rfl rfl rfl rfl rfl rfl (fun w' hw' => Calls.via hw' (ordS_c (s := l1))) ?_
  refine x_A (i := 2) (kk := fun _ => ?_)
  refine OrdA.call rfl rfl rfl rfl rfl rfl rfl (fun w' hw' => Calls.via hw' (ordS_c (s := l2))) ?_
  rw [ha, hb, hc]
  (repeat (first | refine x_p (kk := ?_)))
  refine OrdA.nil (fun w2 hb12 => ?_)
  have hb02 := Below.via hb01 hb12
  (repeat (first | with_reducible refine W.seq ?_ | with_reducible refine W.region ?_ | refine z_p (kk := ?_)))
  refine Ops.call rfl rfl rfl rfl rfl (Product_to ra rd_nil la (by decide) (hT.below hb02) (prodC_nil a) rfl rfl) (fun r w3 hR => ?_)
  obtain ⟨rfl, hb23⟩ := hR
  have hb03 := Below.via hb02 hb23
  (repeat (first | with_reducible refine W.seq ?_ | with_reducible refine Ops.nil ?_ | with_reducible refine W.region ?_ | refine z_p (kk := ?_)))
  refine Ops.call rfl rfl rfl rfl rfl (Product_to rd_nil ra (by decide) la (hT.below hb03) (show prodC .nil a = some .nil from rfl) rfl rfl) (fun r w4 hR => ?_)
  obtain ⟨rfl, hb34⟩ := hR
  have hb04 := Below.via hb03 hb34
  (repeat (first | with_reducible refine W.seq ?_ | with_reducible refine Ops.nil ?_ | with_reducible refine W.region ?_ | refine z_p (kk := ?_)))
  refine Ops.call rfl rfl rfl rfl rfl (Product_to ra rd_one la (by decide) (hT.below hb04) (prodC_one na oa) rfl rfl) (fun r w5 hR => ?_)
  obtain ⟨rfl, hb45⟩ := hR
  have hb05 := Below.via hb04 hb45
  (repeat (first | with_reducible refine W.seq ?_ | with_reducible refine Ops.nil ?_ | with_reducible refine W.region ?_ | refine z_p (kk := ?_)))
  refine Ops.call rfl rfl rfl rfl rfl (Product_to rd_one ra (by decide) la (hT.below hb05) (one_prodC na oa) rfl rfl) (fun r w6 hR => ?_)
  obtain ⟨rfl, hb56⟩ := hR
  have hb06 := Below.via hb05 hb56
  have hd0 : (!decide (txO a = txO a)) = false := by simp
  refine Ops.cut (fun ρ w' => ρ = [(3, S (txO a)), (4, S (txO b)), (5, S (txO c)), (6, S [48]), (7, .int .i64 0), (8, S [48]), (9, .int .i64 0), (10, S (txO a)), (11, .int .i64 0), (12, S (txO a)), (13, .int .i64 0)] ∧ w' = w6) ?_ ?_
  · (repeat (first | with_reducible refine Ops.nil ?_ | refine z_p (kk := ?_)))
    exact W.endl ⟨_, ⟨rfl, rfl⟩, (by repeat (first | exact trivial | refine And.intro rfl ?_))⟩
  rintro ρ w6' ⟨rfl, rfl⟩
  (repeat (first | with_reducible refine W.seq ?_ | with_reducible refine Ops.nil ?_ | with_reducible refine W.region ?_ | refine z_p (kk := ?_) | refine z_y (kk := ?_) | refine z_ev (EV.sne rfl rfl rfl rfl) (kk := ?_) | refine z_h (kk := ?_)))
  refine W.condF rfl (by first | rfl | (simp; done) | (simp; omega)) ?_
  (repeat (first | with_reducible refine W.seq ?_ | with_reducible refine W.region ?_ | refine z_p (kk := ?_) | with_reducible refine W.skip ?_))
  refine Ops.call rfl rfl rfl rfl rfl (Product_tx ra rb la lb (hT.below hb06)) (fun r w7 hR => ?_)
  obtain ⟨rfl, hb67⟩ := hR
  have hb07 := Below.via hb06 hb67
  obtain ⟨e1, s1, he1, hs1, h1⟩ := prodV a b
  rw [he1, hs1]
  (repeat (first | with_reducible refine W.seq ?_ | with_reducible refine Ops.nil ?_ | with_reducible refine W.region ?_ | refine z_p (kk := ?_)))
  refine Ops.call rfl rfl rfl rfl rfl (Product_tx ra rc la lc (hT.below hb07)) (fun r w8 hR => ?_)
  obtain ⟨rfl, hb78⟩ := hR
  have hb08 := Below.via hb07 hb78
  obtain ⟨e2, s2, he2, hs2, h2⟩ := prodV a c
  rw [he2, hs2]
  (repeat (first | with_reducible refine W.seq ?_ | with_reducible refine Ops.nil ?_ | with_reducible refine W.region ?_ | refine z_p (kk := ?_)))
  refine Ops.call rfl rfl rfl rfl rfl (Product_tx rb rc lb lc (hT.below hb08)) (fun r w9 hR => ?_)
  obtain ⟨rfl, hb89⟩ := hR
  have hb09 := Below.via hb08 hb89
  obtain ⟨e3, s3, he3, hs3, h3⟩ := prodV b c
  rw [he3, hs3]
  (repeat (first | with_reducible refine W.seq ?_ | with_reducible refine Ops.nil ?_ | with_reducible refine W.region ?_ | refine z_p (kk := ?_)))
  refine Ops.call rfl rfl rfl rfl rfl (Sum_tx rb rc lb lc (hT.below hb09)) (fun r w10 hR => ?_)
  obtain ⟨rfl, hb910⟩ := hR
  have hb010 := Below.via hb09 hb910
  obtain ⟨e4, s4, he4, hs4, h4⟩ := sumV (addC b c)
  rw [he4, hs4]
  clear he1 hs1 he2 hs2 he3 hs3 he4 hs4
  refine Ops.cut (fun ρ w' => ρ = [(3, S (txO a)), (4, S (txO b)), (5, S (txO c)), (14, S s1), (15, .int .i64 e1), (16, S s2), (17, .int .i64 e2), (18, S s3), (19, .int .i64 e3), (20, S s4), (21, .int .i64 e4)] ∧ w' = w10) ?_ ?_
  · (repeat (first | with_reducible refine Ops.nil ?_ | refine z_p (kk := ?_)))
    exact W.endl ⟨_, ⟨rfl, rfl⟩, (by repeat (first | exact trivial | refine And.intro rfl ?_))⟩
  rintro ρ w10' ⟨rfl, rfl⟩
  rcases h1 with rfl | ⟨o1, hp1, rfl, rfl⟩ <;> rcases h2 with rfl | ⟨o2, hp2, rfl, rfl⟩ <;> rcases h3 with rfl | ⟨o3, hp3, rfl, rfl⟩ <;> rcases h4 with rfl | ⟨o4, hp4, rfl, rfl⟩
  all_goals try (
    (repeat (first | with_reducible refine W.seq ?_ | with_reducible refine Ops.nil ?_ | with_reducible refine W.region ?_ | refine z_p (kk := ?_) | refine z_y (kk := ?_) | refine z_n (kk := ?_)))
    refine W.condT rfl (by first | rfl | assumption | (simp only [bnf] <;> omega) | (simp only [*, bnf]; done) | fail) ?_
    (repeat (first | with_reducible refine W.seq ?_ | with_reducible refine W.region ?_ | refine z_p (kk := ?_) | refine z_y (kk := ?_) | refine z_n (kk := ?_)))
    repeat (
      refine Ops.callS rfl rfl rfl rfl rfl (full_c _ _) ?_
      (repeat (first | refine z_p (kk := ?_) | refine z_y (kk := ?_) | refine z_n (kk := ?_))))
    refine Ops.call rfl rfl rfl rfl rfl (awake_c (hT.below hb010)) (fun r wz hR => ?_)
    obtain ⟨rfl, hbz⟩ := hR
    (repeat (first | with_reducible refine Ops.nil ?_ | refine z_p (kk := ?_)))
    exact W.fret rfl ⟨rfl, Below.via hb010 hbz⟩)
  obtain ⟨e1, k1⟩ := prodC_spec na nb oa ob hp1
  obtain ⟨e2, k2⟩ := prodC_spec na nc oa oc hp2
  obtain ⟨e3, k3⟩ := prodC_spec nb nc ob oc hp3
  obtain ⟨e4, k4⟩ := addC_spec ob oc hp4
  have n1 : NF o1 := by rw [e1]; exact mulO_NF na nb
  have n2 : NF o2 := by rw [e2]; exact mulO_NF na nc
  have n3 : NF o3 := by rw [e3]; exact mulO_NF nb nc
  have n4 : NF o4 := by rw [e4]; exact addO_NF nb nc
  have r1 := okS_rd n1 k1
  have r2 := okS_rd n2 k2
  have r3 := okS_rd n3 k3
  have r4 := okS_rd n4 k4
  (repeat (first | with_reducible refine W.seq ?_ | with_reducible refine Ops.nil ?_ | with_reducible refine W.region ?_ | refine z_p (kk := ?_) | refine z_y (kk := ?_)))
  refine W.condF rfl (by first | rfl | assumption | (simp only [bnf] <;> omega) | (simp only [*, bnf]; done) | fail) ?_
  (repeat (first | with_reducible refine W.seq ?_ | with_reducible refine W.region ?_ | refine z_p (kk := ?_) | with_reducible refine W.skip ?_))
  refine Ops.call rfl rfl rfl rfl rfl (Product_tx ra r4 la (tx_bd k4) (hT.below hb010)) (fun r w11 hR => ?_)
  obtain ⟨rfl, hb1011⟩ := hR
  have hb011 := Below.via hb010 hb1011
  obtain ⟨f1, t1, he1, hs1, h1⟩ := prodV a o4
  rw [he1, hs1]
  (repeat (first | with_reducible refine W.seq ?_ | with_reducible refine Ops.nil ?_ | with_reducible refine W.region ?_ | refine z_p (kk := ?_)))
  refine Ops.call rfl rfl rfl rfl rfl (Sum_tx r1 r2 (tx_bd k1) (tx_bd k2) (hT.below hb011)) (fun r w12 hR => ?_)
  obtain ⟨rfl, hb1112⟩ := hR
  have hb012 := Below.via hb011 hb1112
  obtain ⟨f2, t2, he2, hs2, h2⟩ := sumV (addC o1 o2)
  rw [he2, hs2]
  (repeat (first | with_reducible refine W.seq ?_ | with_reducible refine Ops.nil ?_ | with_reducible refine W.region ?_ | refine z_p (kk := ?_)))
  refine Ops.call rfl rfl rfl rfl rfl (Product_tx r1 rc (tx_bd k1) lc (hT.below hb012)) (fun r w13 hR => ?_)
  obtain ⟨rfl, hb1213⟩ := hR
  have hb013 := Below.via hb012 hb1213
  obtain ⟨f3, t3, he3, hs3, h3⟩ := prodV o1 c
  rw [he3, hs3]
  (repeat (first | with_reducible refine W.seq ?_ | with_reducible refine Ops.nil ?_ | with_reducible refine W.region ?_ | refine z_p (kk := ?_)))
  refine Ops.call rfl rfl rfl rfl rfl (Product_tx ra r3 la (tx_bd k3) (hT.below hb013)) (fun r w14 hR => ?_)
  obtain ⟨rfl, hb1314⟩ := hR
  have hb014 := Below.via hb013 hb1314
  obtain ⟨f4, t4, he4, hs4, h4⟩ := prodV a o3
  rw [he4, hs4]
  clear he1 hs1 he2 hs2 he3 hs3 he4 hs4
  have hlr : ∀ x y, prodC a o4 = some x → addC o1 o2 = some y → x = y := fun x y hx hy => by
    rw [(prodC_spec na n4 oa k4 hx).1, (addC_spec k1 k2 hy).1, e4, e1, e2]
    exact mul_add na nb nc
  have huv : ∀ x y, prodC o1 c = some x → prodC a o3 = some y → x = y := fun x y hx hy => by
    rw [(prodC_spec n1 nc k1 oc hx).1, (prodC_spec na n3 oa k3 hy).1, e1, e3]
    exact mul_assoc na nb nc
  refine Ops.cut (fun ρ w' => ρ = [(22, S t1), (23, .int .i64 f1), (24, S t2), (25, .int .i64 f2), (26, S t3), (27, .int .i64 f3), (28, S t4), (29, .int .i64 f4)] ∧ w' = w14) ?_ ?_
  · (repeat (first | with_reducible refine Ops.nil ?_ | refine z_p (kk := ?_)))
    exact W.endl ⟨_, ⟨rfl, rfl⟩, (by repeat (first | exact trivial | refine And.intro rfl ?_))⟩
  rintro ρ w14' ⟨rfl, rfl⟩
  rcases h1 with rfl | ⟨x1, hx1, rfl, rfl⟩ <;> rcases h2 with rfl | ⟨x2, hx2, rfl, rfl⟩ <;> rcases h3 with rfl | ⟨x3, hx3, rfl, rfl⟩ <;> rcases h4 with rfl | ⟨x4, hx4, rfl, rfl⟩
  all_goals try (have hx := hlr _ _ hx1 hx2; subst hx; have hdx : (!decide (txO x1 = txO x1)) = false := by simp)
  all_goals try (have hx := huv _ _ hx3 hx4; subst hx; have hdy : (!decide (txO x3 = txO x3)) = false := by simp)
  all_goals (
    (repeat (first | with_reducible refine W.seq ?_ | with_reducible refine Ops.nil ?_ | with_reducible refine W.region ?_ | refine z_p (kk := ?_) | refine z_y (kk := ?_) | refine z_n (kk := ?_) | refine z_ev (EV.sne rfl rfl rfl rfl) (kk := ?_) | refine z_h (kk := ?_)))
    refine W.condF rfl (by first | rfl | assumption | (simp; done)) ?_
    (repeat (first | with_reducible refine W.seq ?_ | with_reducible refine W.region ?_ | refine z_p (kk := ?_) | refine z_y (kk := ?_) | refine z_n (kk := ?_) | with_reducible refine W.skip ?_))
    repeat (
      refine Ops.callS rfl rfl rfl rfl rfl (full_c _ _) ?_
      (repeat (first | refine z_p (kk := ?_) | refine z_y (kk := ?_) | refine z_n (kk := ?_))))
    refine Ops.call rfl rfl rfl rfl rfl (awake_c (hT.below hb014)) (fun r wz hR => ?_)
    obtain ⟨rfl, hbz⟩ := hR
    (repeat (first | with_reducible refine Ops.nil ?_ | refine z_p (kk := ?_)))
    exact W.fret rfl ⟨rfl, Below.via hb014 hbz⟩)
end Go.Proofs.YtcmjlmnfdncajaaGreatDoor
