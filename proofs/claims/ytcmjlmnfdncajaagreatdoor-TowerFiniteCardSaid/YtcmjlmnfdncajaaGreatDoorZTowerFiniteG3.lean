/- A part of the walk: what this seat's statements share. -/
import Derived.Test.YtcmjlmnfdncajaaGreatDoorZTowerFiniteG2
set_option linter.unusedVariables false
set_option linter.unusedSimpArgs false
set_option linter.unusedSectionVars false
namespace Go.Proofs.YtcmjlmnfdncajaaGreatDoor
open Go Go.RowKit Go.Proofs.YtcmjlmnfdncajaaGreatDoor.VW Go.Proofs.YtcmjlmnfdncajaaGreatDoor.TW
attribute [local irreducible] W Ops OrdA VW.Ord OrdX Wi OpsI OrdF
theorem sumV (x : Option Od) : ∃ e s, outE ((fullG x).map txO) = e ∧ outS ((fullG x).map txO) = s ∧ (e = 5 ∨ ∃ o, x = some o ∧ e = 0 ∧ s = txO o) := by
  cases x with
  | none => exact ⟨_, _, rfl, rfl, .inl rfl⟩
  | some o => exact ⟨_, _, rfl, rfl, .inr ⟨o, rfl, rfl, rfl⟩⟩
theorem blendV (a b : Od) : ∃ e s, outE ((blG a b).map txO) = e ∧ outS ((blG a b).map txO) = s ∧ (e = 5 ∨ (bigT (blO a b) = false ∧ e = 0 ∧ s = txO (blO a b))) := by
  unfold blG
  cases h : bigT (blO a b) with
  | true => exact ⟨_, _, rfl, rfl, .inl rfl⟩
  | false => exact ⟨_, _, rfl, rfl, .inr ⟨rfl, rfl, rfl⟩⟩
theorem prodV (a b : Od) : ∃ e s, outE ((prodF a b).map txO) = e ∧ outS ((prodF a b).map txO) = s ∧ (e = 5 ∨ ∃ o, prodC a b = some o ∧ e = 0 ∧ s = txO o) := by
  unfold prodF
  cases h : prodC a b with
  | none => exact ⟨_, _, rfl, rfl, .inl rfl⟩
  | some o => exact ⟨_, _, rfl, rfl, .inr ⟨o, rfl, rfl, rfl⟩⟩
theorem Blend_tx {w : World} {a b : Od} (ha : rdA (txO a) = some a) (hb : rdA (txO b) = some b) (la : (txO a).length ≤ 4294967295) (lb : (txO b).length ≤ 4294967295) (hT : Tbl w) :
    Calls Tryz.prog 50 #[S (txO a), S (txO b)] w (Ret fun r w' => r = .tuple #[S (outS ((blG a b).map txO)), .int .i64 (outE ((blG a b).map txO))] ∧ Below w.heap.size w w') := by
  have h := Blend_c (w := w) la lb hT
  rw [bothR_ok ha hb] at h
  exact h
theorem Product_tx {w : World} {a b : Od} (ha : rdA (txO a) = some a) (hb : rdA (txO b) = some b) (la : (txO a).length ≤ 4294967295) (lb : (txO b).length ≤ 4294967295) (hT : Tbl w) :
    Calls Tryz.prog 34 #[S (txO a), S (txO b)] w (Ret fun r w' => r = .tuple #[S (outS ((prodF a b).map txO)), .int .i64 (outE ((prodF a b).map txO))] ∧ Below w.heap.size w w') := by
  have h := Product_c (w := w) la lb hT
  rw [bothR_ok ha hb] at h
  exact h
theorem Rest_tx {w : World} {a b o : Od} (ha : rdA (txO a) = some a) (hb : rdA (txO b) = some b) (la : (txO a).length ≤ 4294967295) (lb : (txO b).length ≤ 4294967295) (hT : Tbl w) (h : restO a b = some o) :
    Calls Tryz.prog 51 #[S (txO a), S (txO b)] w (Ret fun r w' => r = .tuple #[S (txO o), .int .i64 0] ∧ Below w.heap.size w w') := by
  have h' := Rest_c (w := w) la lb hT
  rw [bothR_ok ha hb, show restF a b = .ok o by unfold restF; rw [h]] at h'
  exact h'
theorem blG_comm (a b : Od) : blG b a = blG a b := by unfold blG; rw [bl_comm b a]
theorem okS_bl {a b : Od} (ka : mostO a ≤ 24) (kb : mostO b ≤ 24) (h : bigT (blO a b) = false) : okS (blO a b) := by
  have h1 := of_decide_eq_false h
  have h2 := bl_sizes a b
  have h3 := most_eq (blO a b)
  have h4 := exM_le a
  have h5 := exM_le b
  exact ⟨by omega, by omega⟩
set_option maxHeartbeats 8000000 in
theorem grows_c {w : World} {l0 l1 l2 : List UInt8} (hT : Tbl w) : Calls Tryz.prog 11 #[.agg #[S l0, S l1, S l2]] w (Ret fun r w' => r = .bool true ∧ Below w.heap.size w w') := by
  obtain ⟨ra, la, na, oa, ma, za⟩ := ordS_tx l0
  obtain ⟨rb, lb, nb, ob, mb, zb⟩ := ordS_tx l1
  obtain ⟨rc, lc, nc, oc, mc, zc⟩ := ordS_tx l2
  generalize ha : ordS l0 = a at *
  generalize hb : ordS l1 = b at *
  generalize hc : ordS l2 = c at *
  refine calls_W (vs := [_]) Tryz.func11 rfl (by kernel_rfl) rfl ?_
  (repeat (first | with_reducible refine W.seq ?_ | with_reducible refine W.region ?_))
  refine Ops.box rfl rfl rfl rfl (fun w1 b1 hM1 => ?_)
  have B1 : Blk w1 b1 #[S l0, S l1, S l2] 33 := hM1.at_
  have hb01 := Mk.bel hM1
  (repeat (first | with_reducible refine W.seq ?_ | with_reducible refine Ops.nil ?_ | refine z_p (kk := ?_)))
  refine W.ordA 99 [(0, 1), (1, 2), (2, 2), (3, 1), (4, 2), (5, 2), (6, 1), (7, 2), (8, 2), (9, 1), (10, 1), (11, 1)] rfl (by kernel_rfl) rfl (by kernel_rfl) (fun _ _ _ h => h) ?_
  refine x_A (i := 0) (kk := fun _ => ?_)
  refine OrdA.call rfl rfl rfl rfl rfl rfl rfl (fun w' hw' => Calls.via hw' (ordS_c (s := l0))) ?_
  refine x_A (i := 1) (kk := fun _ => ?_)
  refine OrdA.call rfl rfl rfl rfl rfl rfl rfl (fun w' hw' => Calls.via hw' (ordS_c (s := l1))) ?_
  refine x_A (i := 2) (kk := fun _ => ?_)
  refine OrdA.call rfl rfl rfl rfl rfl rfl rfl (fun w' hw' => Calls.via hw' (ordS_c (s := l2))) ?_
  rw [ha, hb, hc]
  (repeat (first | refine x_p (kk := ?_)))
  refine OrdA.nil (fun w2 hb12 => ?_)
  have hb02 := Below.via hb01 hb12
  (repeat (first | with_reducible refine W.seq ?_ | with_reducible refine W.region ?_ | refine z_p (kk := ?_)))
  refine Ops.call rfl rfl rfl rfl rfl (Sum_tx ra rb la lb (hT.below hb02)) (fun r w3 hR => ?_)
  obtain ⟨rfl, hb23⟩ := hR
  have hb03 := Below.via hb02 hb23
  obtain ⟨e1, s1, he1, hs1, h1⟩ := sumV (addC a b)
  rw [he1, hs1]
  (repeat (first | with_reducible refine W.seq ?_ | with_reducible refine Ops.nil ?_ | with_reducible refine W.region ?_ | refine z_p (kk := ?_)))
  refine Ops.call rfl rfl rfl rfl rfl (Sum_tx ra rc la lc (hT.below hb03)) (fun r w4 hR => ?_)
  obtain ⟨rfl, hb34⟩ := hR
  have hb04 := Below.via hb03 hb34
  obtain ⟨e2, s2, he2, hs2, h2⟩ := sumV (addC a c)
  rw [he2, hs2]
  (repeat (first | with_reducible refine W.seq ?_ | with_reducible refine Ops.nil ?_ | with_reducible refine W.region ?_ | refine z_p (kk := ?_)))
  refine Ops.call rfl rfl rfl rfl rfl (Compare_tx rb rc lb lc) (fun r w5 hR => ?_)
  obtain ⟨rfl, hb45⟩ := hR
  have hb05 := Below.via hb04 hb45
  (repeat (first | with_reducible refine W.seq ?_ | with_reducible refine Ops.nil ?_ | with_reducible refine W.region ?_ | refine z_p (kk := ?_)))
  refine Ops.call rfl rfl rfl rfl rfl (Blend_tx ra rb la lb (hT.below hb05)) (fun r w6 hR => ?_)
  obtain ⟨rfl, hb56⟩ := hR
  have hb06 := Below.via hb05 hb56
  obtain ⟨e3, s3, he3, hs3, h3⟩ := blendV a b
  rw [he3, hs3]
  (repeat (first | with_reducible refine W.seq ?_ | with_reducible refine Ops.nil ?_ | with_reducible refine W.region ?_ | refine z_p (kk := ?_)))
  refine Ops.call rfl rfl rfl rfl rfl (Blend_tx rb ra lb la (hT.below hb06)) (fun r w7 hR => ?_)
  obtain ⟨rfl, hb67⟩ := hR
  have hb07 := Below.via hb06 hb67
  rw [blG_comm, he3, hs3]
  clear he1 hs1 he2 hs2 he3 hs3
  have hd3 : decide (s3 = s3) = true := by simp
  refine Ops.cut (fun ρ w' => ρ = [(3, S (txO a)), (4, S (txO b)), (5, S (txO c)), (6, S s1), (7, .int .i64 e1), (8, S s2), (9, .int .i64 e2), (10, .int .i64 (cmpO b c)), (11, .int .i64 0), (12, S s3), (13, .int .i64 e3), (14, S s3), (15, .int .i64 e3)] ∧ w' = w7) ?_ ?_
  · (repeat (first | with_reducible refine Ops.nil ?_ | refine z_p (kk := ?_)))
    exact W.endl ⟨_, ⟨rfl, rfl⟩, (by repeat (first | exact trivial | refine And.intro rfl ?_))⟩
  rintro ρ w7' ⟨rfl, rfl⟩
  (repeat (first | with_reducible refine W.seq ?_ | with_reducible refine Ops.nil ?_ | with_reducible refine W.region ?_ | refine z_p (kk := ?_) | refine z_y (kk := ?_) | refine z_ev (EV.sne rfl rfl rfl rfl) (kk := ?_) | refine z_h (kk := ?_)))
  refine W.condF rfl (by first | rfl | (simp; done) | (simp; omega)) ?_
  rcases h1 with rfl | ⟨s, hs, rfl, rfl⟩ <;> rcases h2 with rfl | ⟨t, ht, rfl, rfl⟩ <;> rcases h3 with rfl | ⟨hbl, rfl, rfl⟩
  all_goals try (
    (repeat (first | with_reducible refine W.seq ?_ | with_reducible refine Ops.nil ?_ | with_reducible refine W.region ?_ | refine z_p (kk := ?_) | refine z_y (kk := ?_) | refine z_n (kk := ?_) | with_reducible refine W.skip ?_))
    refine W.condT rfl (by first | rfl | assumption | (simp only [bnf] <;> omega) | (simp only [*, bnf]; done) | fail) ?_
    (repeat (first | with_reducible refine W.seq ?_ | with_reducible refine W.region ?_ | refine z_p (kk := ?_) | refine z_y (kk := ?_) | refine z_n (kk := ?_)))
    repeat (
      refine Ops.callS rfl rfl rfl rfl rfl (full_c _ _) ?_
      (repeat (first | refine z_p (kk := ?_) | refine z_y (kk := ?_) | refine z_n (kk := ?_))))
    refine Ops.call rfl rfl rfl rfl rfl (awake_c (hT.below hb07)) (fun r wz hR => ?_)
    obtain ⟨rfl, hbz⟩ := hR
    (repeat (first | with_reducible refine Ops.nil ?_ | refine z_p (kk := ?_)))
    exact W.fret rfl ⟨rfl, Below.via hb07 hbz⟩)
  obtain ⟨e1, k1⟩ := addC_spec oa ob hs
  obtain ⟨e2, k2⟩ := addC_spec oa oc ht
  have kp := okS_bl ma mb hbl
  have ns : NF s := by rw [e1]; exact addO_NF na nb
  have nt : NF t := by rw [e2]; exact addO_NF na nc
  have np : NF (blO a b) := bl_NF na nb
  have rs : rdA (txO s) = some s := okS_rd ns k1
  have rt : rdA (txO t) = some t := okS_rd nt k2
  have rp : rdA (txO (blO a b)) = some (blO a b) := okS_rd np kp
  have c1 : cmpO s t = cmpO b c := by rw [e1, e2]; exact add_cmp na nb nc
  have c2 : restO a s = some b := by rw [e1]; exact rest_add na nb
  have c3 : cmpO a s ≤ 0 := by rw [e1]; exact leO_cmp.1 (le_add_l na nb)
  have c4 : cmpO b s ≤ 0 := by rw [e1]; exact leO_cmp.1 (le_add_r na nb)
  have c5 : cmpO s (blO a b) ≤ 0 := by rw [e1]; exact leO_cmp.1 (sum_le_bl na nb)
  (repeat (first | with_reducible refine W.seq ?_ | with_reducible refine Ops.nil ?_ | with_reducible refine W.region ?_ | refine z_p (kk := ?_) | refine z_y (kk := ?_) | with_reducible refine W.skip ?_))
  refine W.condF rfl (by first | rfl | assumption | (simp only [bnf] <;> omega) | (simp only [*, bnf]; done) | fail) ?_
  (repeat (first | with_reducible refine W.seq ?_ | with_reducible refine W.region ?_ | refine z_p (kk := ?_) | with_reducible refine W.skip ?_))
  refine Ops.call rfl rfl rfl rfl rfl (Compare_tx rs rt (tx_bd k1) (tx_bd k2)) (fun r w8 hR => ?_)
  obtain ⟨rfl, hb78⟩ := hR
  have hb08 := Below.via hb07 hb78
  rw [c1]
  (repeat (first | with_reducible refine W.seq ?_ | with_reducible refine Ops.nil ?_ | with_reducible refine W.region ?_ | refine z_p (kk := ?_)))
  refine Ops.call rfl rfl rfl rfl rfl (Rest_tx ra rs la (tx_bd k1) (hT.below hb08) c2) (fun r w9 hR => ?_)
  obtain ⟨rfl, hb89⟩ := hR
  have hb09 := Below.via hb08 hb89
  (repeat (first | with_reducible refine W.seq ?_ | with_reducible refine Ops.nil ?_ | with_reducible refine W.region ?_ | refine z_p (kk := ?_)))
  refine Ops.call rfl rfl rfl rfl rfl (Compare_tx ra rs la (tx_bd k1)) (fun r w10 hR => ?_)
  obtain ⟨rfl, hb910⟩ := hR
  have hb010 := Below.via hb09 hb910
  (repeat (first | with_reducible refine W.seq ?_ | with_reducible refine Ops.nil ?_ | with_reducible refine W.region ?_ | refine z_p (kk := ?_)))
  refine Ops.call rfl rfl rfl rfl rfl (Compare_tx rb rs lb (tx_bd k1)) (fun r w11 hR => ?_)
  obtain ⟨rfl, hb1011⟩ := hR
  have hb011 := Below.via hb010 hb1011
  (repeat (first | with_reducible refine W.seq ?_ | with_reducible refine Ops.nil ?_ | with_reducible refine W.region ?_ | refine z_p (kk := ?_)))
  refine Ops.call rfl rfl rfl rfl rfl (Compare_tx rs rp (tx_bd k1) (tx_bd kp)) (fun r w12 hR => ?_)
  obtain ⟨rfl, hb1112⟩ := hR
  have hb012 := Below.via hb011 hb1112
  generalize cmpO a s = q3 at *
  generalize cmpO b s = q4 at *
  generalize cmpO s (blO a b) = q5 at *
  generalize cmpO b c = q1 at *
  have hq1 : (q1 == q1) = true := by simp
  have hdb : decide (txO b = txO b) = true := by simp
  (repeat (first | with_reducible refine W.seq ?_ | with_reducible refine Ops.nil ?_ | with_reducible refine W.region ?_ | refine z_p (kk := ?_) | refine z_y (kk := ?_) | refine z_ev (EV.seq rfl rfl rfl rfl) (kk := ?_) | refine z_h (kk := ?_)))
  refine Ops.call rfl rfl rfl rfl rfl (awake_c (hT.below hb012)) (fun r wz hR => ?_)
  obtain ⟨rfl, hbz⟩ := hR
  (repeat (first | with_reducible refine Ops.nil ?_ | refine z_p (kk := ?_)))
  refine W.fret rfl ⟨?_, Below.via hb012 hbz⟩
  rfl
end Go.Proofs.YtcmjlmnfdncajaaGreatDoor
namespace Go.Proofs.YtcmjlmnfdncajaaGreatDoor
open Go Go.RowKit Go.Proofs.YtcmjlmnfdncajaaGreatDoor.VW Go.Proofs.YtcmjlmnfdncajaaGreatDoor.TW
attribute [local irreducible] W Ops OrdA VW.Ord OrdX Wi OpsI OrdF
theorem numO_zero : numO 0 = .nil := rfl
theorem numO_pos {n : Nat} (h : 0 < n) : numO n = .cons .nil n .nil := by unfold numO ptO; rw [if_pos h]
theorem num_ok {n : Nat} (h : n ≤ 1000) : NF (numO n) ∧ okS (numO n) ∧ rdA (txO (numO n)) = some (numO n) := by
  have h1 : NF (numO n) := by
    unfold numO ptO
    split
    · exact ⟨trivial, by assumption, trivial, trivial⟩
    · trivial
  have h2 : okS (numO n) := by
    unfold numO ptO okS
    split
    · simp only [mostO, szO]; omega
    · simp [mostO, szO]
  exact ⟨h1, h2, okS_rd h1 h2⟩
theorem num_add (m n : Nat) : addO (numO m) (numO n) = numO (m + n) := by
  by_cases hm : 0 < m
  · by_cases hn : 0 < n
    · rw [numO_pos hm, numO_pos hn, numO_pos (by omega), addO_eq (e := .nil) (r := .nil) (c := m) ⟨trivial, hm, trivial, trivial⟩, Nat.add_comm]
    · have : n = 0 := by omega
      subst this
      rfl
  · have : m = 0 := by omega
    subst this
    rw [numO_zero, addO_nil, Nat.zero_add]
theorem num_addC {m n : Nat} (h : m + n ≤ 1000) : addC (numO m) (numO n) = some (numO (m + n)) := by
  rw [addC_eq (num_ok (by omega)).2.1, num_add]
  unfold TW.chk
  rw [okS_big (num_ok h).2.1]; rfl
theorem num_bl (m n : Nat) : blO (numO m) (numO n) = numO (m + n) := by
  by_cases hm : 0 < m
  · by_cases hn : 0 < n
    · rw [numO_pos hm, numO_pos hn, numO_pos (by omega), bl_eq]; rfl
    · have : n = 0 := by omega
      subst this
      rw [numO_zero, blO_nil]; rfl
  · have : m = 0 := by omega
    subst this
    rw [numO_zero, Nat.zero_add]; rfl
theorem num_cmp (m n : Nat) : cmpO (numO m) (numO n) = if m < n then -1 else if n < m then 1 else 0 := by
  by_cases hm : 0 < m
  · by_cases hn : 0 < n
    · rw [numO_pos hm, numO_pos hn, cmp_cut]; rfl
    · have : n = 0 := by omega
      subst this
      rw [numO_pos hm, numO_zero, if_neg (by omega), if_pos hm]; rfl
  · have : m = 0 := by omega
    subst this
    by_cases hn : 0 < n
    · rw [numO_pos hn, numO_zero, if_pos hn]; rfl
    · have : n = 0 := by omega
      subst this
      rfl
theorem num_prod (m n : Nat) (hm1 : m ≤ 1000) (hn1 : n ≤ 1000) : prodC (numO m) (numO n) = if m * n ≤ 1000 then some (numO (m * n)) else none := by
  by_cases hm : 0 < m
  · by_cases hn : 0 < n
    · have hp : 0 < m * n := Nat.mul_pos hm hn
      rw [numO_pos hm, numO_pos hn, numO_pos hp]
      show prodL .nil m .nil .nil (.cons .nil n .nil) = _
      have e1 : stL .nil m .nil .nil .nil n = (TW.chk (.cons .nil (m * n) .nil)).bind (addC .nil) := rfl
      simp only [prodL, e1]
      by_cases h : m * n ≤ 1000
      · have hb : bigT (.cons .nil (m * n) .nil) = false := decide_eq_false (by simp only [topO, szO]; omega)
        have hc : TW.chk (.cons .nil (m * n) .nil) = some (.cons .nil (m * n) .nil) := by unfold TW.chk; rw [hb]; rfl
        rw [if_pos h, hc, Option.bind_some, addC_cons, addO_nil, hc]
      · have hb : bigT (.cons .nil (m * n) .nil) = true := decide_eq_true (by simp only [topO, szO]; omega)
        have hc : TW.chk (.cons .nil (m * n) .nil) = none := by unfold TW.chk; rw [hb]; rfl
        rw [if_neg h, hc]; rfl
    · have : n = 0 := by omega
      subst this
      rw [numO_zero, prodC_nil, if_pos (by omega)]; rfl
  · have : m = 0 := by omega
    subst this
    rw [numO_zero, if_pos (by omega), Nat.zero_mul]; rfl
theorem Number_tx {w : World} {k : Nat} (h : k ≤ 1000) (hT : Tbl w) : Calls Tryz.prog 36 #[.int .i64 (k : Int)] w (Ret fun r w' => r = .tuple #[S (txO (numO k)), .int .i64 0] ∧ Below w.heap.size w w') := by
  have h' := Number_c (w := w) (n := (k : Int)) hT
  rw [show numR (k : Int) = .ok k by unfold numR; rw [if_pos (by omega), Int.toNat_natCast]] at h'
  exact h'
theorem Kind_tx {w : World} {a : Od} (ha : rdA (txO a) = some a) (la : (txO a).length ≤ 4294967295) : Calls Tryz.prog 24 #[S (txO a)] w (Ret fun r w' => r = .tuple #[.int .i64 (kindO a : Int), .int .i64 0] ∧ Below w.heap.size w w') := by
  have h' := Kind_c (w := w) la
  rw [show kindR (txO a) = .ok (kindO a) by unfold kindR; rw [ha]] at h'
  exact h'
set_option maxHeartbeats 16000000 in
theorem finite_c {w : World} {m n : Int} {l : List UInt8} (hT : Tbl w) (hl : l.length ≤ 9223372036854775807) : Calls Tryz.prog 14 #[.int .i64 m, .int .i64 n, S l] w (Ret fun r w' => r = .bool true ∧ Below w.heap.size w w') := by
  refine calls_W (vs := [_, _, _]) Tryz.func14 rfl (by kernel_rfl) rfl ?_
  obtain ⟨m0, hm, hm1⟩ := modI_ex m (n := 500) (by omega)
  obtain ⟨n0, hn, hn1⟩ := modI_ex n (n := 500) (by omega)
  obtain ⟨ro, lo, no, oo, mo, zo⟩ := ordS_tx l
  obtain ⟨n1, k1, r1⟩ := num_ok (n := m0) (by omega)
  obtain ⟨n2, k2, r2⟩ := num_ok (n := n0) (by omega)
  obtain ⟨n3, k3, r3⟩ := num_ok (n := m0 + n0) (by omega)
  (repeat (first | with_reducible refine W.seq ?_ | with_reducible refine Ops.nil ?_ | with_reducible refine W.region ?_ | refine z_p (kk := ?_)))
  refine Ops.callS rfl rfl rfl rfl rfl (mod_c m 500 _ (by omega) (by omega)) ?_
  (repeat (first | refine z_p (kk := ?_)))
  refine Ops.callS rfl rfl rfl rfl rfl (mod_c n 500 _ (by omega) (by omega)) ?_
  rw [hm, hn]
  (repeat (first | with_reducible refine W.seq ?_ | with_reducible refine Ops.nil ?_ | with_reducible refine W.region ?_ | refine z_p (kk := ?_)))
  refine Ops.call rfl rfl rfl rfl rfl (Number_tx (k := m0) (by omega) hT) (fun r w1 hR => ?_)
  obtain ⟨rfl, hb1⟩ := hR
  (repeat (first | with_reducible refine W.seq ?_ | with_reducible refine Ops.nil ?_ | with_reducible refine W.region ?_ | refine z_p (kk := ?_)))
  refine Ops.call rfl rfl rfl rfl rfl (Number_tx (k := n0) (by omega) (hT.below hb1)) (fun r w2 hR => ?_)
  obtain ⟨rfl, hb2⟩ := hR
  have hb02 := Below.via hb1 hb2
  (repeat (first | with_reducible refine W.seq ?_ | with_reducible refine Ops.nil ?_ | with_reducible refine W.region ?_ | refine z_p (kk := ?_) | refine z_a (kk := ?_)))
  rw [show (m0 : Int) + (n0 : Int) = ((m0 + n0 : Nat) : Int) by omega]
  refine Ops.call rfl rfl rfl rfl rfl (Number_tx (k := m0 + n0) (by omega) (hT.below hb02)) (fun r w3 hR => ?_)
  obtain ⟨rfl, hb3⟩ := hR
  have hb03 := Below.via hb02 hb3
  (repeat (first | with_reducible refine W.seq ?_ | with_reducible refine Ops.nil ?_ | with_reducible refine W.region ?_ | refine z_p (kk := ?_)))
  refine Ops.call rfl rfl rfl rfl rfl (Sum_tx r1 r2 (tx_bd k1) (tx_bd k2) (hT.below hb03)) (fun r w4 hR => ?_)
  obtain ⟨rfl, hb4⟩ := hR
  have hb04 := Below.via hb03 hb4
  rw [num_addC (by omega), eM_some.1, eM_some.2]
  (repeat (first | with_reducible refine W.seq ?_ | with_reducible refine Ops.nil ?_ | with_reducible refine W.region ?_ | refine z_p (kk := ?_)))
  refine Ops.call rfl rfl rfl rfl rfl (Blend_tx r1 r2 (tx_bd k1) (tx_bd k2) (hT.below hb04)) (fun r w5 hR => ?_)
  obtain ⟨rfl, hb5⟩ := hR
  have hb05 := Below.via hb04 hb5
  have hbl : blG (numO m0) (numO n0) = .ok (numO (m0 + n0)) := by unfold blG; rw [num_bl, okS_big k3]; rfl
  rw [hbl, show outE ((.ok (numO (m0 + n0)) : Except Int Od).map txO) = 0 from rfl, show outS ((.ok (numO (m0 + n0)) : Except Int Od).map txO) = txO (numO (m0 + n0)) from rfl]
  (repeat (first | with_reducible refine W.seq ?_ | with_reducible refine Ops.nil ?_ | with_reducible refine W.region ?_ | refine z_p (kk := ?_)))
  refine Ops.call rfl rfl rfl rfl rfl (Compare_tx r1 r2 (tx_bd k1) (tx_bd k2)) (fun r w6 hR => ?_)
  obtain ⟨rfl, hb6⟩ := hR
  have hb06 := Below.via hb05 hb6
  have hcm := num_cmp m0 n0
  generalize hX : cmpO (numO m0) (numO n0) = X at *
  have hd0 : (!decide (txO (numO (m0 + n0)) = txO (numO (m0 + n0)))) = false := by simp
  refine Ops.cut (fun ρ w' => ρ = [(0, .int .i64 (m0 : Int)), (1, .int .i64 (n0 : Int)), (2, S l), (7, S (txO (numO m0))), (8, .int .i64 0), (9, S (txO (numO n0))), (10, .int .i64 0), (11, S (txO (numO (m0 + n0)))), (12, .int .i64 0), (13, S (txO (numO (m0 + n0)))), (14, .int .i64 0), (15, S (txO (numO (m0 + n0)))), (16, .int .i64 0), (17, .int .i64 X), (18, .int .i64 0)] ∧ w' = w6) ?_ ?_
  · (repeat (first | with_reducible refine Ops.nil ?_ | refine z_p (kk := ?_)))
    exact W.endl ⟨_, ⟨rfl, rfl⟩, (by repeat (first | exact trivial | refine And.intro rfl ?_))⟩
  rintro ρ w6' ⟨rfl, rfl⟩
  refine W.seq ?_
  refine W.cut (fun ρ w' => ρ = [(0, .int .i64 (m0 : Int)), (1, .int .i64 (n0 : Int)), (2, S l), (7, S (txO (numO m0))), (9, S (txO (numO n0)))] ∧ w' = w6') ?_ ?_
  · have h3 : m0 < n0 ∨ m0 = n0 ∨ n0 < m0 := by omega
    rcases h3 with h | h | h
    · rw [if_pos h] at hcm
      subst hcm
      have hd1 : (!(decide ((-1 : Int) < 0) == decide ((m0 : Int) < (n0 : Int)))) = false := by simp [show (m0 : Int) < (n0 : Int) by omega]
      (repeat (first | with_reducible refine W.seq ?_ | with_reducible refine Ops.nil ?_ | with_reducible refine W.region ?_ | refine z_p (kk := ?_) | refine z_y (kk := ?_) | refine z_E (kk := ?_) | refine z_ev (EV.sne rfl rfl rfl rfl) (kk := ?_) | refine z_h (kk := ?_)))
      refine W.condF rfl (by simp; omega) ?_
      (repeat (first | with_reducible refine W.skip ?_))
      exact W.endl ⟨_, ⟨rfl, rfl⟩, (by repeat (first | exact trivial | refine And.intro rfl ?_))⟩
    · subst h
      rw [if_neg (by omega), if_neg (by omega)] at hcm
      subst hcm
      have hd1 : (!(decide ((0 : Int) < 0) == decide ((m0 : Int) < (m0 : Int)))) = false := by simp
      (repeat (first | with_reducible refine W.seq ?_ | with_reducible refine Ops.nil ?_ | with_reducible refine W.region ?_ | refine z_p (kk := ?_) | refine z_y (kk := ?_) | refine z_E (kk := ?_) | refine z_ev (EV.sne rfl rfl rfl rfl) (kk := ?_) | refine z_h (kk := ?_)))
      refine W.condF rfl (by simp) ?_
      (repeat (first | with_reducible refine W.skip ?_))
      exact W.endl ⟨_, ⟨rfl, rfl⟩, (by repeat (first | exact trivial | refine And.intro rfl ?_))⟩
    · rw [if_neg (by omega), if_pos h] at hcm
      subst hcm
      have hd1 : (!(decide ((1 : Int) < 0) == decide ((m0 : Int) < (n0 : Int)))) = false := by simp [show ¬ (m0 : Int) < (n0 : Int) by omega]
      (repeat (first | with_reducible refine W.seq ?_ | with_reducible refine Ops.nil ?_ | with_reducible refine W.region ?_ | refine z_p (kk := ?_) | refine z_y (kk := ?_) | refine z_E (kk := ?_) | refine z_ev (EV.sne rfl rfl rfl rfl) (kk := ?_) | refine z_h (kk := ?_)))
      refine W.condF rfl (by simp; omega) ?_
      (repeat (first | with_reducible refine W.skip ?_))
      exact W.endl ⟨_, ⟨rfl, rfl⟩, (by repeat (first | exact trivial | refine And.intro rfl ?_))⟩
  rintro ρ w6 ⟨rfl, rfl⟩
  have hmul : m0 * n0 ≤ 500 * 500 := Nat.mul_le_mul (by omega) (by omega)
  clear hcm hX
  (repeat (first | with_reducible refine W.seq ?_ | with_reducible refine W.region ?_ | refine z_p (kk := ?_)))
  refine Ops.call rfl rfl rfl rfl rfl (Product_tx r1 r2 (tx_bd k1) (tx_bd k2) (hT.below hb06)) (fun r w7 hR => ?_)
  obtain ⟨rfl, hb7⟩ := hR
  have hb07 := Below.via hb06 hb7
  have hpr := num_prod m0 n0 (by omega) (by omega)
  (repeat (first | with_reducible refine W.seq ?_ | with_reducible refine Ops.nil ?_ | with_reducible refine W.region ?_ | refine z_p (kk := ?_) | refine z_a (kk := ?_)))
  rw [show (m0 : Int) * (n0 : Int) = ((m0 * n0 : Nat) : Int) by push_cast; rfl]
  refine W.cut (fun ρ w' => ρ = [(2, S l), (7, S (txO (numO m0)))] ∧ Below w7.heap.size w7 w') ?_ ?_
  · have hb77 : Below w7.heap.size w7 w7 := Below.refl _ _
    by_cases hbig : m0 * n0 ≤ 1000
    · rw [if_pos hbig] at hpr
      have hf : prodF (numO m0) (numO n0) = .ok (numO (m0 * n0)) := by unfold prodF; rw [hpr]
      rw [hf, show outE ((.ok (numO (m0 * n0)) : Except Int Od).map txO) = 0 from rfl, show outS ((.ok (numO (m0 * n0)) : Except Int Od).map txO) = txO (numO (m0 * n0)) from rfl]
      have hd1 : (!decide (txO (numO (m0 * n0)) = txO (numO (m0 * n0)))) = false := by simp
      refine W.condF rfl (by simp; omega) ?_
      (repeat (first | with_reducible refine W.seq ?_ | with_reducible refine W.region ?_ | refine z_p (kk := ?_) | refine z_a (kk := ?_)))
      rw [show (m0 : Int) * (n0 : Int) = ((m0 * n0 : Nat) : Int) by push_cast; rfl]
      refine Ops.call rfl rfl rfl rfl rfl (Number_tx (k := m0 * n0) (by omega) (hT.below hb07)) (fun r w8 hR => ?_)
      obtain ⟨rfl, hb8⟩ := hR
      (repeat (first | with_reducible refine W.seq ?_ | with_reducible refine Ops.nil ?_ | with_reducible refine W.region ?_ | refine z_p (kk := ?_) | refine z_y (kk := ?_) | refine z_ev (EV.sne rfl rfl rfl rfl) (kk := ?_)))
      refine W.condF rfl (by first | assumption | (simp; done)) ?_
      (repeat (first | with_reducible refine W.skip ?_))
      exact W.endl ⟨_, ⟨rfl, hb8⟩, (by repeat (first | exact trivial | refine And.intro rfl ?_))⟩
    · rw [if_neg hbig] at hpr
      have hf : prodF (numO m0) (numO n0) = .error 5 := by unfold prodF; rw [hpr]
      rw [hf, show outE ((.error 5 : Except Int Od).map txO) = 5 from rfl, show outS ((.error 5 : Except Int Od).map txO) = [] from rfl]
      refine W.condT rfl (by simp; omega) ?_
      (repeat (first | with_reducible refine W.seq ?_ | with_reducible refine W.region ?_ | refine z_p (kk := ?_)))
      refine Ops.callS rfl rfl rfl rfl rfl (full_c _ _) ?_
      (repeat (first | with_reducible refine Ops.nil ?_ | refine z_p (kk := ?_) | refine z_y (kk := ?_) | refine z_ev (EV.sne rfl rfl rfl rfl) (kk := ?_)))
      refine W.condF rfl (by first | rfl | (simp; done)) ?_
      (repeat (first | with_reducible refine W.skip ?_))
      exact W.endl ⟨_, ⟨rfl, hb77⟩, (by repeat (first | exact trivial | refine And.intro rfl ?_))⟩
  rintro ρ w8 ⟨rfl, hb8⟩
  have hb08 := Below.via hb07 hb8
  (repeat (first | with_reducible refine W.seq ?_ | with_reducible refine W.region ?_ | refine z_p (kk := ?_)))
  refine Ops.call rfl rfl rfl rfl rfl (ordS_c (s := l)) (fun r w9 hR => ?_)
  obtain ⟨rfl, hb9⟩ := hR
  have hb09 := Below.via hb08 hb9
  generalize ho : ordS l = o at *
  (repeat (first | with_reducible refine W.seq ?_ | with_reducible refine Ops.nil ?_ | with_reducible refine W.region ?_ | refine z_p (kk := ?_)))
  refine Ops.call rfl rfl rfl rfl rfl (Kind_tx ro lo) (fun r w10 hR => ?_)
  obtain ⟨rfl, hb10⟩ := hR
  have hb010 := Below.via hb09 hb10
  (repeat (first | with_reducible refine W.seq ?_ | with_reducible refine Ops.nil ?_ | with_reducible refine W.region ?_ | refine z_p (kk := ?_)))
  refine Ops.call rfl rfl rfl rfl rfl (Sum_tx r1 ro (tx_bd k1) lo (hT.below hb010)) (fun r w11 hR => ?_)
  obtain ⟨rfl, hb11⟩ := hR
  have hb011 := Below.via hb010 hb11
  by_cases hk : kindO o = 2
  · have hs : addC (numO m0) o = some o := by
      rw [addC_eq k1, show addO (numO m0) o = o from fin_absorb no hk]
      unfold TW.chk
      rw [okS_big oo]; rfl
    rw [hs, eM_some.1, eM_some.2, hk]
    have hd1 : decide (txO o = txO o) = true := by simp
    (repeat (first | with_reducible refine W.seq ?_ | with_reducible refine Ops.nil ?_ | with_reducible refine W.region ?_ | refine z_p (kk := ?_) | refine z_y (kk := ?_) | refine z_n (kk := ?_)))
    refine W.condF rfl (by first | rfl | assumption | (simp only [bnf] <;> omega) | (simp only [*, bnf]; done) | fail) ?_
    (repeat (first | with_reducible refine W.seq ?_ | with_reducible refine W.region ?_ | refine z_p (kk := ?_) | refine z_y (kk := ?_) | with_reducible refine W.skip ?_ | refine z_ev (EV.seq rfl rfl rfl rfl) (kk := ?_) | refine z_h (kk := ?_)))
    refine Ops.call rfl rfl rfl rfl rfl (awake_c (hT.below hb011)) (fun r wz hR => ?_)
    obtain ⟨rfl, hbz⟩ := hR
    (repeat (first | with_reducible refine Ops.nil ?_ | refine z_p (kk := ?_)))
    exact W.fret rfl ⟨rfl, Below.via hb011 hbz⟩
  · obtain ⟨e1, s1, he1, hs1, h1⟩ := sumV (addC (numO m0) o)
    rw [he1, hs1]
    clear he1 hs1
    have hk' : (((kindO o : Nat) : Int) != 2) = true := by simp; omega
    rcases h1 with rfl | ⟨s, hs, rfl, rfl⟩
    all_goals (
      (repeat (first | with_reducible refine W.seq ?_ | with_reducible refine Ops.nil ?_ | with_reducible refine W.region ?_ | refine z_p (kk := ?_) | refine z_y (kk := ?_) | refine z_n (kk := ?_)))
      repeat (
        refine Ops.callS rfl rfl rfl rfl rfl (full_c _ _) ?_
        (repeat (first | with_reducible refine Ops.nil ?_ | refine z_p (kk := ?_) | refine z_y (kk := ?_))))
      refine W.condF rfl (by first | rfl | (simp; done)) ?_
      (repeat (first | with_reducible refine W.seq ?_ | with_reducible refine W.region ?_ | refine z_p (kk := ?_) | refine z_y (kk := ?_) | refine z_n (kk := ?_) | refine z_u (kk := ?_) | with_reducible refine W.skip ?_ | refine z_g (kk := ?_)))
      refine Ops.call rfl rfl rfl rfl rfl (awake_c (hT.below hb011)) (fun r wz hR => ?_)
      obtain ⟨rfl, hbz⟩ := hR
      (repeat (first | with_reducible refine Ops.nil ?_ | refine z_p (kk := ?_)))
      exact W.fret rfl ⟨rfl, Below.via hb011 hbz⟩)
end Go.Proofs.YtcmjlmnfdncajaaGreatDoor
