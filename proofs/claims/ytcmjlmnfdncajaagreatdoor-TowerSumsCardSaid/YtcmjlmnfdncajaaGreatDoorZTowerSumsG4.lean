/- A part of the walk: what this seat's statements share. -/
import Derived.Test.YtcmjlmnfdncajaaGreatDoorZG10
import Derived.Test.YtcmjlmnfdncajaaGreatDoorZTowerSumsG1
import Derived.Test.YtcmjlmnfdncajaaGreatDoorZTowerSumsG2
import Derived.Test.YtcmjlmnfdncajaaGreatDoorZTowerSumsG3
import Derived.Test.YtcmjlmnfdncajaaGreatDoorZG7
set_option linter.unusedVariables false
set_option linter.unusedSimpArgs false
set_option linter.unusedSectionVars false
namespace Go.Proofs.YtcmjlmnfdncajaaGreatDoor
open Go Go.RowKit Go.Proofs.YtcmjlmnfdncajaaGreatDoor.VW Go.Proofs.YtcmjlmnfdncajaaGreatDoor.TW
attribute [local irreducible] W Ops OrdA VW.Ord OrdX Wi OpsI OrdF
theorem full_c (e : Int) (w : World) : Calls Tryz.prog 22 #[.int .i64 e] w (Ret fun r w' => r = .bool (decide (e = 5)) ∧ w' = w) := by
  refine calls_W (vs := [_]) Tryz.func22 rfl (by kernel_rfl) rfl ?_
  (repeat (first | with_reducible refine W.seq ?_ | with_reducible refine Ops.nil ?_ | with_reducible refine W.region ?_ | refine z_p (kk := ?_)))
  refine W.fret rfl ⟨?_, rfl⟩
  show Value.bool _ = _
  by_cases h : e = 5 <;> simp [h]
theorem modI_nat {a n : Nat} (h : a < 18446744073709551616) : modI (a : Int) (n : Int) = ((a % n : Nat) : Int) := by
  unfold modI
  rw [show (a : Int) % 18446744073709551616 = (a : Int) by omega]
  exact (Int.natCast_emod a n).symm
theorem modI_ex (x : Int) {n : Int} (h : 0 < n) : ∃ k : Nat, modI x n = (k : Int) ∧ (k : Int) < n := by
  have := modI_bd x h
  exact ⟨(modI x n).toNat, by omega, by omega⟩
theorem bumR_small {x b : Nat} (hb : 2 ≤ b) (hb2 : b ≤ 1000) (hx : x < b) : bumR (x : Int) (b : Int) = .ok (x, numO x) := by
  have h1 : bmp b x = x := bmp_small hb hx
  have h2 : lif b x = numO x := lif_small hb hx
  have h3 : bigT (numO x) = false := by
    unfold numO ptO
    split
    · exact decide_eq_false (by simp only [topO, szO]; omega)
    · rfl
  unfold bumR
  rw [if_pos (by omega), Int.toNat_natCast, Int.toNat_natCast, h1, h2, if_pos ⟨by omega, h3⟩]
theorem cmpR_ok {a b : Od} (ha : rdA (txO a) = some a) (hb : rdA (txO b) = some b) : cmpR (txO a) (txO b) = .ok (cmpO a b) := by
  unfold cmpR
  rw [ha, hb]
theorem txO_le {b m : Nat} (hb : 2 ≤ b) (hb2 : b ≤ 1000) (h : bigT (lif b m) = false) : (txO (lif b m)).length ≤ 4294967295 := by
  have h2 := lif_most hb m m (Nat.le_refl _)
  have h3 := of_decide_eq_false h
  have := txO_len (o := lif b m) (by omega)
  omega
theorem intL_get (l : List Nat) (i : Nat) : (intL l).getD i 0 = ((l.getD i 0 : Nat) : Int) := by
  unfold intL
  simp only [List.getD_eq_getElem?_getD, List.getElem?_map]
  cases l[i]? <;> rfl
theorem txL_get {l : List Od} {i : Nat} (h : i < l.length) : (l.map txO).getD i [] = txO (l.getD i .nil) := by
  simp [List.getD_eq_getElem?_getD, h]
set_option maxHeartbeats 8000000 in
theorem goodLaw_c {w : World} {m steps base : Int} (hT : Tbl w) : Calls Tryz.prog 9 #[.int .i64 m, .int .i64 steps, .int .i64 base] w (Ret fun r w' => r = .bool true ∧ Below w.heap.size w w') := by
  refine calls_W (vs := [_, _, _]) Tryz.func9 rfl (by kernel_rfl) rfl ?_
  obtain ⟨m0, hm, hm1⟩ := modI_ex m (n := 1000001) (by omega)
  obtain ⟨s0, hs, hs1⟩ := modI_ex steps (n := 51) (by omega)
  obtain ⟨c0, hc, hc1⟩ := modI_ex base (n := 999) (by omega)
  (repeat (first | with_reducible refine W.seq ?_ | with_reducible refine Ops.nil ?_ | with_reducible refine W.region ?_ | refine z_p (kk := ?_)))
  refine Ops.callS rfl rfl rfl rfl rfl (mod_c m 1000001 _ (by omega) (by omega)) ?_
  (repeat (first | refine z_p (kk := ?_)))
  refine Ops.callS rfl rfl rfl rfl rfl (mod_c steps 51 _ (by omega) (by omega)) ?_
  (repeat (first | with_reducible refine W.seq ?_ | with_reducible refine Ops.nil ?_ | with_reducible refine W.region ?_ | refine z_p (kk := ?_)))
  refine Ops.callS rfl rfl rfl rfl rfl (mod_c base 999 _ (by omega) (by omega)) ?_
  rw [hm, hs, hc]
  (repeat (first | with_reducible refine W.seq ?_ | with_reducible refine Ops.nil ?_ | with_reducible refine W.region ?_ | refine z_p (kk := ?_) | refine z_a (kk := ?_)))
  rw [show (2 : Int) + (c0 : Int) = ((c0 + 2 : Nat) : Int) by omega]
  generalize hb0 : c0 + 2 = b0 at *
  have hb2 : 2 ≤ b0 := by omega
  have hb3 : b0 ≤ 1000 := by omega
  refine Ops.call rfl rfl rfl rfl rfl (Goodstein_c (m := (m0 : Int)) (steps := (s0 : Int)) hT) (fun r w1 hR => ?_)
  obtain ⟨v1, v2, rfl, hG1, hG2, hne, hb1⟩ := hR
  (repeat (first | with_reducible refine W.seq ?_ | with_reducible refine Ops.nil ?_ | with_reducible refine W.region ?_ | refine z_p (kk := ?_)))
  refine Ops.callS rfl rfl rfl rfl rfl (mod_c _ _ _ (by omega) (by omega)) ?_
  rw [modI_nat (by omega)]
  have hx := Nat.mod_lt m0 (show b0 > 0 by omega)
  have hB := bumR_small hb2 hb3 hx
  have hN : numR ((m0 % b0 : Nat) : Int) = .ok (m0 % b0) := by unfold numR; rw [if_pos (by omega), Int.toNat_natCast]
  generalize hxm : m0 % b0 = x0 at *
  (repeat (first | refine z_p (kk := ?_)))
  refine Ops.call rfl rfl rfl rfl rfl (Bumped_c (hT.below hb1)) (fun r w2 hR => ?_)
  obtain ⟨rfl, hb12⟩ := hR
  have hb02 := Below.via hb1 hb12
  rw [hB, show (outN (.ok (x0, numO x0))).1 = (x0 : Int) from rfl, show (outN (.ok (x0, numO x0))).2 = txO (numO x0) from rfl, show outE (.ok (x0, numO x0) : Except Int (Nat × Od)) = 0 from rfl]
  (repeat (first | with_reducible refine W.seq ?_ | with_reducible refine Ops.nil ?_ | with_reducible refine W.region ?_ | refine z_p (kk := ?_)))
  refine Ops.callS rfl rfl rfl rfl rfl (mod_c _ _ _ (by omega) (by omega)) ?_
  rw [modI_nat (by omega), hxm]
  skip
  refine Ops.call rfl rfl rfl rfl rfl (Number_c (hT.below hb02)) (fun r w3 hR => ?_)
  obtain ⟨rfl, hb23⟩ := hR
  have hb03 := Below.via hb02 hb23
  have hb13 := Below.via hb12 hb23
  rw [hN, show outM (.ok x0) = txO (numO x0) from rfl, show outE (.ok x0 : Except Int Nat) = 0 from rfl]
  (repeat (first | with_reducible refine W.seq ?_ | with_reducible refine Ops.nil ?_ | with_reducible refine W.region ?_ | refine z_p (kk := ?_) | refine z_y (kk := ?_)))
  refine Ops.callS rfl rfl rfl rfl rfl (mod_c _ _ _ (by omega) (by omega)) ?_
  rw [modI_nat (by omega), hxm]
  (repeat (first | with_reducible refine Ops.nil ?_ | refine z_p (kk := ?_) | refine z_y (kk := ?_) | refine z_ev (EV.sne rfl rfl rfl rfl) (kk := ?_) | refine z_h (kk := ?_)))
  refine W.condF rfl (by simp) ?_
  (repeat (first | with_reducible refine W.seq ?_ | with_reducible refine Ops.nil ?_ | with_reducible refine W.region ?_ | refine z_p (kk := ?_) | with_reducible refine W.skip ?_))
  have hgr : goodR (m0 : Int) (s0 : Int) = match goodL s0 2 m0 with
      | none => .error 5
      | some q => .ok q := by
    unfold goodR
    rw [if_pos (by omega), Int.toNat_natCast, Int.toNat_natCast]
    cases goodL s0 2 m0 <;> rfl
  cases hq : goodL s0 2 m0 with
  | none =>
    rw [hq] at hgr
    simp only at hgr
    rw [hgr] at hG1 hG2 ⊢
    obtain ⟨A1, d1, rfl⟩ := hG1.sh
    obtain ⟨A2, d2, rfl⟩ := hG2.sh
    rw [show outE (.error 5 : Except Int (List Nat × List Od)) = 5 from rfl]
    rw [show (intL (outG (.error 5)).1).length = 0 from rfl, show ((outG (.error 5)).2.map txO).length = 0 from rfl]
    skip
    refine W.condT rfl (by first | rfl | assumption | (simp only [bnf] <;> omega) | (simp only [*, bnf]; done) | fail) ?_
    (repeat (first | with_reducible refine W.seq ?_ | with_reducible refine W.region ?_ | refine z_p (kk := ?_)))
    refine Ops.callS rfl rfl rfl rfl rfl (full_c _ _) ?_
    (repeat (first | refine z_p (kk := ?_) | refine z_y (kk := ?_) | refine z_l (kk := ?_)))
    refine Ops.call rfl rfl rfl rfl rfl (awake_c (hT.below hb03)) (fun r w4 hR => ?_)
    obtain ⟨rfl, hb34⟩ := hR
    (repeat (first | with_reducible refine Ops.nil ?_ | refine z_p (kk := ?_)))
    exact W.fret rfl ⟨rfl, Below.via hb03 hb34⟩
  | some q =>
    rw [hq] at hgr
    simp only at hgr
    rw [hgr] at hG1 hG2 ⊢
    rw [show outE (.ok q : Except Int (List Nat × List Od)) = 0 from rfl]
    obtain ⟨ns, os⟩ := q
    have hS := goodL_spec _ _ _ hq
    rw [show (outG (.ok (ns, os))).1 = ns from rfl] at hG1
    rw [show (outG (.ok (ns, os))).2 = os from rfl] at hG2
    have hsl1 : SlI w1 v1 (intL ns) := (hG1.base hb1.size).sl (z := (0 : Int))
    have hsl2 : SlT w1 v2 (os.map txO) := (hG2.base hb1.size).sl (z := ([] : List UInt8))
    have hn1 := Sl.len hsl1
    have hn2 := Sl.len hsl2
    obtain ⟨A1, d1, rfl⟩ := hG1.sh
    obtain ⟨A2, d2, rfl⟩ := hG2.sh
    have q1 := hS.pos
    have q2 := hS.le
    have q3 := hS.lo
    have hil : (intL ns).length = ns.length := by simp [intL]
    have hol : (os.map txO).length = ns.length := by simp [q3]
    have hg0 : (intL ns).getD 0 0 = (m0 : Int) := by
      have := hS.hd
      rw [intL_get, this]
    skip
    refine W.condF rfl (by first | rfl | assumption | (simp only [bnf] <;> omega) | (simp only [*, bnf]; done) | fail) ?_
    (repeat (first | with_reducible refine W.seq ?_ | with_reducible refine W.region ?_ | refine z_p (kk := ?_) | refine z_a (kk := ?_) | refine z_y (kk := ?_) | with_reducible refine W.skip ?_ | refine z_l (kk := ?_) | refine z_K (kk := fun _ => ?_) | refine z_h (kk := ?_)))
    rw [show Int.toNat 0 = 0 from rfl, hg0]
    have hne0 : ((m0 : Int) != (m0 : Int)) = false := by simp
    rw [hne0]
    have hlast : ns.length ≤ s0 → (intL ns).getD (((intL ns).length : Int) - 1).toNat 0 = 0 := fun h => by
      rw [show (((intL ns).length : Int) - 1).toNat = ns.length - 1 by omega, intL_get, hS.fin h]; rfl
    refine Ops.cut (fun ρ w' => ρ = [(7, .slice A1 (intL ns).length d1), (8, .slice A2 (os.map txO).length d2), (124, .bool false)] ∧ w' = w3) ?_ ?_
    · (repeat (first | refine z_p (kk := ?_) | refine z_y (kk := ?_) | refine z_l (kk := ?_)))
      by_cases hle : ns.length ≤ s0
      · have hl0 := hlast hle
        (repeat (first | with_reducible refine Ops.nil ?_ | refine z_p (kk := ?_) | refine z_a (kk := ?_) | refine z_y (kk := ?_) | refine z_l (kk := ?_) | refine z_K (kk := fun _ => ?_) | refine z_h (kk := ?_)))
        rw [hl0]
        skip
        exact W.endl ⟨_, ⟨rfl, rfl⟩, (by repeat (first | exact trivial | refine And.intro rfl ?_))⟩
      · (repeat (first | with_reducible refine Ops.nil ?_ | refine z_p (kk := ?_) | refine z_y (kk := ?_) | refine z_n (kk := ?_) | refine z_g (kk := ?_)))
        exact W.endl ⟨_, ⟨rfl, rfl⟩, (by repeat (first | exact trivial | refine And.intro rfl ?_))⟩
    rintro ρ w3' ⟨rfl, rfl⟩
    clear hlast hne0 hB hN
    skip
    refine W.condF rfl (by first | rfl | assumption | (simp only [bnf] <;> omega) | (simp only [*, bnf]; done) | fail) ?_
    (repeat (first | with_reducible refine W.seq ?_ | with_reducible refine Ops.nil ?_ | with_reducible refine W.region ?_ | refine z_p (kk := ?_) | with_reducible refine W.skip ?_ | with_reducible refine W.block ?_))
    have hb33 : Below w3'.heap.size w3' w3' := Below.refl _ _
    have hsl1' := Sl.below hsl1 hb13
    have hsl2' := Sl.below hsl2 hb13
    refine W.loop (fun k ρ w4 => ∃ i : Nat, k = ns.length - i ∧ i ≤ ns.length ∧ ρ = [(7, .slice A1 (intL ns).length d1), (8, .slice A2 (os.map txO).length d2), (15, .int .i64 i)] ∧ Below w3'.heap.size w3' w4)
      ⟨_, _, ⟨0, rfl, Nat.zero_le _, rfl, hb33⟩, (by repeat (first | exact trivial | refine And.intro rfl ?_))⟩ ?_
    rintro k ρ w4 ⟨i, rfl, hi, rfl, hb34⟩
    have hb44 : Below w4.heap.size w4 w4 := Below.refl _ _
    have hT4 := hT.below (Below.via hb03 hb34)
    (repeat (first | with_reducible refine W.seq ?_ | with_reducible refine Ops.nil ?_ | with_reducible refine W.region ?_ | refine z_p (kk := ?_) | refine z_l (kk := ?_)))
    (first | refine W.condD rfl (fun hc => ?_) (fun hc => ?_) | refine W.condE rfl (fun hc => ?_) (fun hc => ?_) | refine W.condN rfl (fun hc => ?_) (fun hc => ?_) | refine W.cond rfl (fun hc => ?_) (fun hc => ?_))
    · have hin : i < ns.length := by omega
      have ho := hS.od i hin
      have hgi : (intL ns).getD i 0 = ((ns.getD i 0 : Nat) : Int) := intL_get _ _
      have hti : (os.map txO).getD i [] = txO (os.getD i .nil) := txL_get (by omega)
      rw [ho.1] at hti
      generalize hni : ns.getD i 0 = ni at *
      have hrd := rdA_lif (b := 2 + i) (m := ni) (by omega) (by omega) ho.2
      have hln := txO_le (b := 2 + i) (m := ni) (by omega) (by omega) ho.2
      (repeat (first | with_reducible refine W.seq ?_ | with_reducible refine Ops.nil ?_ | with_reducible refine W.region ?_ | refine z_p (kk := ?_) | with_reducible refine W.skip ?_ | with_reducible refine W.block ?_))
      refine W.cut (fun ρ w5 => ρ = [(7, .slice A1 (intL ns).length d1), (8, .slice A2 (os.map txO).length d2), (15, .int .i64 i)] ∧ Below w3'.heap.size w3' w5) ?_ ?_
      · by_cases hi0 : 0 < i
        · have ho1 := hS.od (i - 1) (by omega)
          obtain ⟨n1, n2, n3⟩ := hS.nxt (i - 1) (by omega)
          rw [show i - 1 + 1 = i by omega, hni] at n3
          have hgi1 : (intL ns).getD ((i : Int) - 1).toNat 0 = ((ns.getD (i - 1) 0 : Nat) : Int) := by rw [show ((i : Int) - 1).toNat = i - 1 by omega]; exact intL_get _ _
          have hti1 : (os.map txO).getD ((i : Int) - 1).toNat [] = txO (os.getD (i - 1) .nil) := by rw [show ((i : Int) - 1).toNat = i - 1 by omega]; exact txL_get (by omega)
          rw [ho1.1] at hti1
          generalize hn1i : ns.getD (i - 1) 0 = nj at *
          have hrd1 := rdA_lif (b := 2 + (i - 1)) (m := nj) (by omega) (by omega) ho1.2
          have hln1 := txO_le (b := 2 + (i - 1)) (m := nj) (by omega) (by omega) ho1.2
          have hdn := good_down (b := 2 + (i - 1)) (n := nj) (by omega) n1
          rw [← n3, show 2 + (i - 1) + 1 = 2 + i by omega] at hdn
          have hcr := cmpR_ok hrd hrd1
          rw [hdn] at hcr
          refine W.condT rfl (by first | rfl | assumption | (simp only [bnf] <;> omega) | (simp only [*, bnf]; done) | fail) ?_
          (repeat (first | with_reducible refine W.seq ?_))
          refine W.ordA 99 [(0, 1), (1, 1), (2, 1), (3, 2), (4, 1), (5, 1), (6, 1), (7, 1), (8, 2), (9, 2), (10, 1), (11, 1), (12, 1), (13, 1), (14, 1)] rfl (by kernel_rfl) rfl (by kernel_rfl) (fun _ _ _ h => h) ?_
          (repeat (first | refine x_p (kk := ?_) | refine x_a (kk := ?_) | refine x_TJ (kk := fun _ => ?_) | refine x_TL (kk := fun _ => ?_)))
          rw [hti, hti1]
          refine OrdA.call rfl rfl rfl rfl rfl rfl rfl (fun w' hw' => Calls.via hw' (Compare_c hln hln1)) ?_
          rw [hcr, show outI (.ok (-1) : Except Int Int) = -1 from rfl, show outE (.ok (-1) : Except Int Int) = 0 from rfl]
          (repeat (first | refine x_p (kk := ?_)))
          refine OrdA.nil (fun w5 hb45 => ?_)
          have hb35 := Below.via hb34 hb45
          (repeat (first | with_reducible refine W.seq ?_ | with_reducible refine Ops.nil ?_ | with_reducible refine W.region ?_ | refine z_p (kk := ?_) | refine z_a (kk := ?_) | refine z_y (kk := ?_) | refine z_K (kk := fun _ => ?_)))
          rw [hgi1]
          have hnj : (((nj : Nat) : Int) == 0) = false := by simp; omega
          rw [hnj]
          skip
          refine W.condF rfl (by simp) ?_
          (repeat (first | with_reducible refine W.skip ?_))
          exact W.endl ⟨_, ⟨rfl, hb35⟩, (by repeat (first | exact trivial | refine And.intro rfl ?_))⟩
        · refine W.condF rfl (by first | rfl | assumption | (simp only [bnf] <;> omega) | (simp only [*, bnf]; done) | fail) ?_
          (repeat (first | with_reducible refine W.skip ?_))
          exact W.endl ⟨_, ⟨rfl, hb34⟩, (by repeat (first | exact trivial | refine And.intro rfl ?_))⟩
      · rintro ρ w5 ⟨rfl, hb35⟩
        have hb55 : Below w5.heap.size w5 w5 := Below.refl _ _
        have hT5 := hT.below (Below.via hb03 hb35)
        (repeat (first | with_reducible refine W.seq ?_ | with_reducible refine Ops.nil ?_ | with_reducible refine W.region ?_ | refine z_p (kk := ?_) | refine z_I (kk := fun _ => ?_)))
        rw [hgi]
        by_cases hbig : ni > 1000000
        · refine W.condT rfl (by simp; omega) ?_
          (repeat (first | with_reducible refine Ops.nil ?_ | with_reducible refine W.region ?_ | refine z_p (kk := ?_) | refine z_a (kk := ?_) | refine W.exit rfl ?_))
          exact W.endl ⟨_, _, ⟨⟨i + 1, rfl, by omega, rfl, hb35⟩, by omega⟩, (by repeat (first | exact trivial | refine And.intro rfl ?_))⟩
        · refine W.condF rfl (by simp; omega) ?_
          have hbr : bumR (ni : Int) ((2 + i : Nat) : Int) = if bmp (2 + i) ni ≤ 1152921504606846976 ∧ bigT (lif (2 + i) ni) = false then .ok (bmp (2 + i) ni, lif (2 + i) ni) else .error 5 := by
            unfold bumR
            rw [if_pos (by omega), Int.toNat_natCast, Int.toNat_natCast]
          (repeat (first | with_reducible refine W.seq ?_ | with_reducible refine W.region ?_ | refine z_p (kk := ?_) | refine z_a (kk := ?_) | with_reducible refine W.skip ?_ | refine z_I (kk := fun _ => ?_)))
          rw [hgi, show (2 : Int) + (i : Int) = ((2 + i : Nat) : Int) by omega]
          refine Ops.call rfl rfl rfl rfl rfl (Bumped_c hT5) (fun r w6 hR => ?_)
          obtain ⟨rfl, hb56⟩ := hR
          have hb36 := Below.via hb35 hb56
          rw [hbr]
          have hfin : ∀ ρ, Sub [(7, .slice A1 (intL ns).length d1), (8, .slice A2 (os.map txO).length d2), (15, .int .i64 i)] ρ → True := fun _ _ => trivial
          by_cases hok : bmp (2 + i) ni ≤ 1152921504606846976
          · rw [if_pos ⟨hok, ho.2⟩, show (outN (.ok (bmp (2 + i) ni, lif (2 + i) ni))).1 = (bmp (2 + i) ni : Int) from rfl, show (outN (.ok (bmp (2 + i) ni, lif (2 + i) ni))).2 = txO (lif (2 + i) ni) from rfl, show outE (.ok (bmp (2 + i) ni, lif (2 + i) ni) : Except Int (Nat × Od)) = 0 from rfl]
            (repeat (first | with_reducible refine W.seq ?_ | with_reducible refine Ops.nil ?_ | with_reducible refine W.region ?_ | refine z_p (kk := ?_) | refine z_y (kk := ?_) | refine z_TJ (kk := fun _ => ?_) | refine z_ev (EV.sne rfl rfl rfl rfl) (kk := ?_)))
            have hd : decide (txO (lif (2 + i) ni) = txO (lif (2 + i) ni)) = true := by simp
            rw [hti, hd]
            by_cases hi1 : i + 1 < ns.length
            · obtain ⟨n1, n2, n3⟩ := hS.nxt i hi1
              rw [hni] at n1 n2 n3
              have hle := le_bmp (b := 2 + i) (by omega) ni
              have hgi2 : (intL ns).getD ((i : Int) + 1).toNat 0 = ((bmp (2 + i) ni : Nat) : Int) - 1 := by rw [show ((i : Int) + 1).toNat = i + 1 by omega, intL_get, n3]; omega
              (repeat (first | with_reducible refine Ops.nil ?_ | refine z_p (kk := ?_) | refine z_a (kk := ?_) | refine z_y (kk := ?_) | refine z_n (kk := ?_) | refine z_l (kk := ?_) | refine z_K (kk := fun _ => ?_) | refine z_h (kk := ?_)))
              rw [hgi2]
              have hd2 : (((bmp (2 + i) ni : Nat) : Int) - 1 != ((bmp (2 + i) ni : Nat) : Int) - 1) = false := by simp
              rw [hd2]
              skip
              refine W.condF rfl (by simp) ?_
              (repeat (first | with_reducible refine Ops.nil ?_ | with_reducible refine W.region ?_ | refine z_p (kk := ?_) | refine z_a (kk := ?_) | with_reducible refine W.skip ?_ | with_reducible refine W.endb ?_))
              exact W.endl ⟨_, _, ⟨⟨i + 1, rfl, by omega, rfl, hb36⟩, by omega⟩, (by repeat (first | exact trivial | refine And.intro rfl ?_))⟩
            · (repeat (first | with_reducible refine Ops.nil ?_ | refine z_p (kk := ?_) | refine z_a (kk := ?_) | refine z_y (kk := ?_) | refine z_n (kk := ?_) | refine z_l (kk := ?_) | refine z_g (kk := ?_)))
              refine W.condF rfl (by simp) ?_
              (repeat (first | with_reducible refine Ops.nil ?_ | with_reducible refine W.region ?_ | refine z_p (kk := ?_) | refine z_a (kk := ?_) | with_reducible refine W.skip ?_ | with_reducible refine W.endb ?_))
              exact W.endl ⟨_, _, ⟨⟨i + 1, rfl, by omega, rfl, hb36⟩, by omega⟩, (by repeat (first | exact trivial | refine And.intro rfl ?_))⟩
          · rw [if_neg (fun h => hok h.1), show (outN (.error 5)).1 = 0 from rfl, show (outN (.error 5)).2 = [] from rfl, show outE (.error 5 : Except Int (Nat × Od)) = 5 from rfl]
            by_cases hi1 : i + 1 < ns.length
            · obtain ⟨n1, n2, n3⟩ := hS.nxt i hi1
              rw [hni] at n1 n2 n3
              have hgi2 : (intL ns).getD ((i : Int) + 1).toNat 0 = 1152921504606846976 := by rw [show ((i : Int) + 1).toNat = i + 1 by omega, intL_get, n3]; omega
              (repeat (first | with_reducible refine W.seq ?_ | with_reducible refine Ops.nil ?_ | with_reducible refine W.region ?_ | refine z_p (kk := ?_) | refine z_a (kk := ?_) | refine z_y (kk := ?_) | refine z_n (kk := ?_) | refine z_u (kk := ?_) | refine z_l (kk := ?_) | refine z_K (kk := fun _ => ?_) | refine z_h (kk := ?_)))
              rw [hgi2]
              skip
              refine W.condF rfl (by simp) ?_
              (repeat (first | with_reducible refine Ops.nil ?_ | with_reducible refine W.region ?_ | refine z_p (kk := ?_) | refine z_a (kk := ?_) | with_reducible refine W.skip ?_ | with_reducible refine W.endb ?_))
              exact W.endl ⟨_, _, ⟨⟨i + 1, rfl, by omega, rfl, hb36⟩, by omega⟩, (by repeat (first | exact trivial | refine And.intro rfl ?_))⟩
            · (repeat (first | with_reducible refine W.seq ?_ | with_reducible refine Ops.nil ?_ | with_reducible refine W.region ?_ | refine z_p (kk := ?_) | refine z_a (kk := ?_) | refine z_y (kk := ?_) | refine z_n (kk := ?_) | refine z_u (kk := ?_) | refine z_l (kk := ?_) | refine z_g (kk := ?_)))
              refine W.condF rfl (by simp) ?_
              (repeat (first | with_reducible refine Ops.nil ?_ | with_reducible refine W.region ?_ | refine z_p (kk := ?_) | refine z_a (kk := ?_) | with_reducible refine W.skip ?_ | with_reducible refine W.endb ?_))
              exact W.endl ⟨_, _, ⟨⟨i + 1, rfl, by omega, rfl, hb36⟩, by omega⟩, (by repeat (first | exact trivial | refine And.intro rfl ?_))⟩
    · (repeat (first | with_reducible refine W.seq ?_ | with_reducible refine W.region ?_ | refine W.exit rfl ?_))
      refine Ops.call rfl rfl rfl rfl rfl (awake_c hT4) (fun r w5 hR => ?_)
      obtain ⟨rfl, hb45⟩ := hR
      (repeat (first | with_reducible refine Ops.nil ?_ | refine z_p (kk := ?_)))
      exact W.fret rfl ⟨rfl, Below.via hb03 (Below.via hb34 hb45)⟩
end Go.Proofs.YtcmjlmnfdncajaaGreatDoor
namespace Go.Proofs.YtcmjlmnfdncajaaGreatDoor
open Go Go.RowKit Go.Proofs.YtcmjlmnfdncajaaGreatDoor.VW Go.Proofs.YtcmjlmnfdncajaaGreatDoor.TW
attribute [local irreducible] W Ops OrdA VW.Ord OrdX Wi OpsI OrdF
set_option maxHeartbeats 16000000 in
theorem sums_c {w : World} {s0 t0 : List UInt8} (hT : Tbl w) (hl1 : s0.length ≤ 9223372036854775807) (hl2 : t0.length ≤ 9223372036854775807) : Calls Tryz.prog 13 #[S s0, S t0] w (Ret fun r w' => r = .bool true ∧ Below w.heap.size w w') := by
  refine calls_W (vs := [_, _]) Tryz.func13 rfl (by kernel_rfl) rfl ?_
  (repeat (first | with_reducible refine W.seq ?_ | with_reducible refine Ops.nil ?_ | with_reducible refine W.region ?_ | refine z_p (kk := ?_)))
  refine Ops.callS rfl rfl rfl rfl rfl (short_c (s := s0)) ?_
  (repeat (first | refine z_p (kk := ?_)))
  refine Ops.callS rfl rfl rfl rfl rfl (short_c (s := t0)) ?_
  have hsl := shS_len s0
  have htl := shS_len t0
  generalize shS s0 = s at *
  generalize shS t0 = t at *
  (repeat (first | with_reducible refine W.seq ?_ | with_reducible refine Ops.nil ?_ | with_reducible refine W.region ?_ | refine z_p (kk := ?_)))
  refine Ops.call rfl rfl rfl rfl rfl (Compare_c (s := s) (t := t) (by omega) (by omega)) (fun r w1 hR => ?_)
  obtain ⟨rfl, hb1⟩ := hR
  (repeat (first | with_reducible refine W.seq ?_ | with_reducible refine Ops.nil ?_ | with_reducible refine W.region ?_ | refine z_p (kk := ?_)))
  refine Ops.call rfl rfl rfl rfl rfl (Sum_c (s := s) (t := t) (by omega) (by omega) (hT.below hb1)) (fun r w2 hR => ?_)
  obtain ⟨rfl, hb12⟩ := hR
  have hb02 := Below.via hb1 hb12
  (repeat (first | with_reducible refine W.seq ?_ | with_reducible refine Ops.nil ?_ | with_reducible refine W.region ?_ | refine z_p (kk := ?_)))
  refine Ops.call rfl rfl rfl rfl rfl (Blend_c (s := s) (t := t) (by omega) (by omega) (hT.below hb02)) (fun r w3 hR => ?_)
  obtain ⟨rfl, hb23⟩ := hR
  have hb03 := Below.via hb02 hb23
  (repeat (first | with_reducible refine W.seq ?_ | with_reducible refine Ops.nil ?_ | with_reducible refine W.region ?_ | refine z_p (kk := ?_)))
  refine Ops.call rfl rfl rfl rfl rfl (Product_c (s := s) (t := t) (by omega) (by omega) (hT.below hb03)) (fun r w4 hR => ?_)
  obtain ⟨rfl, hb34⟩ := hR
  have hb04 := Below.via hb03 hb34
  (repeat (first | with_reducible refine W.seq ?_ | with_reducible refine Ops.nil ?_ | with_reducible refine W.region ?_ | refine z_p (kk := ?_)))
  refine Ops.call rfl rfl rfl rfl rfl (Rest_c (s := s) (t := t) (by omega) (by omega) (hT.below hb04)) (fun r w5 hR => ?_)
  obtain ⟨rfl, hb45⟩ := hR
  have hb05 := Below.via hb04 hb45
  (repeat (first | with_reducible refine W.seq ?_ | with_reducible refine Ops.nil ?_ | with_reducible refine W.region ?_ | refine z_p (kk := ?_)))
  refine Ops.call rfl rfl rfl rfl rfl (rRead_c (s := s) hsl) (fun r w6 hR => ?_)
  obtain ⟨hor, hb56⟩ := hR
  have hb06 := Below.via hb05 hb56
  have hfail : (rdA s = none ∨ rdA t = none) → cmpR s t = .error 4 ∧ ∀ G, bothR G s t = .error 4 := fun h => by
    unfold cmpR bothR
    rcases h with h | h
    · rw [h]; exact ⟨rfl, fun _ => rfl⟩
    · rw [h]; cases rdA s <;> exact ⟨rfl, fun _ => rfl⟩
  rcases hor with ⟨a, va, hra, rfl, hA⟩ | ⟨va, hra, rfl⟩
  rotate_left
  · obtain ⟨q1, q2⟩ := hfail (.inl hra)
    rw [q1, q2, q2, q2, q2, show outI (.error 4) = 0 from rfl, show outE (.error 4 : Except Int Int) = 4 from rfl, show outS (.error 4) = [] from rfl, show outE (.error 4 : Except Int (List UInt8)) = 4 from rfl]
    (repeat (first | with_reducible refine W.seq ?_ | with_reducible refine Ops.nil ?_ | with_reducible refine W.region ?_ | refine z_p (kk := ?_)))
    refine Ops.call rfl rfl rfl rfl rfl (rRead_c (s := t) htl) (fun r w7 hR => ?_)
    obtain ⟨hor2, hb67⟩ := hR
    have hb07 := Below.via hb06 hb67
    rcases hor2 with ⟨b, vb, hrb, rfl, hB⟩ | ⟨vb, hrb, rfl⟩
    all_goals (
      (repeat (first | with_reducible refine W.seq ?_ | with_reducible refine Ops.nil ?_ | with_reducible refine W.region ?_ | refine z_p (kk := ?_) | refine z_n (kk := ?_)))
      refine W.condT rfl (by first | rfl | assumption | (simp only [bnf] <;> omega) | (simp only [*, bnf]; done) | fail) ?_
      (repeat (first | with_reducible refine W.seq ?_ | with_reducible refine W.region ?_ | refine z_p (kk := ?_) | refine z_y (kk := ?_) | refine z_ev (EV.seq rfl rfl rfl rfl) (kk := ?_)))
      refine Ops.call rfl rfl rfl rfl rfl (awake_c (hT.below hb07)) (fun r wz hR => ?_)
      obtain ⟨rfl, hbz⟩ := hR
      (repeat (first | with_reducible refine Ops.nil ?_ | refine z_p (kk := ?_)))
      exact W.fret rfl ⟨rfl, Below.via hb07 hbz⟩)
  (repeat (first | with_reducible refine W.seq ?_ | with_reducible refine Ops.nil ?_ | with_reducible refine W.region ?_ | refine z_p (kk := ?_)))
  refine Ops.call rfl rfl rfl rfl rfl (rRead_c (s := t) htl) (fun r w7 hR => ?_)
  obtain ⟨hor2, hb67⟩ := hR
  have hb07 := Below.via hb06 hb67
  rcases hor2 with ⟨b, vb, hrb, rfl, hB⟩ | ⟨vb, hrb, rfl⟩
  rotate_left
  · obtain ⟨q1, q2⟩ := hfail (.inr hrb)
    rw [q1, q2, q2, q2, q2, show outI (.error 4) = 0 from rfl, show outE (.error 4 : Except Int Int) = 4 from rfl, show outS (.error 4) = [] from rfl, show outE (.error 4 : Except Int (List UInt8)) = 4 from rfl]
    (repeat (first | with_reducible refine W.seq ?_ | with_reducible refine Ops.nil ?_ | with_reducible refine W.region ?_ | refine z_p (kk := ?_) | refine z_y (kk := ?_)))
    refine W.condT rfl (by first | rfl | assumption | (simp only [bnf] <;> omega) | (simp only [*, bnf]; done) | fail) ?_
    (repeat (first | with_reducible refine W.seq ?_ | with_reducible refine W.region ?_ | refine z_p (kk := ?_) | refine z_y (kk := ?_) | refine z_ev (EV.seq rfl rfl rfl rfl) (kk := ?_)))
    refine Ops.call rfl rfl rfl rfl rfl (awake_c (hT.below hb07)) (fun r wz hR => ?_)
    obtain ⟨rfl, hbz⟩ := hR
    (repeat (first | with_reducible refine Ops.nil ?_ | refine z_p (kk := ?_)))
    exact W.fret rfl ⟨rfl, Below.via hb07 hbz⟩
  obtain ⟨hNa, hSa, hza⟩ := rdA_spec hra
  obtain ⟨hNb, hSb, hzb⟩ := rdA_spec hrb
  have hma := small_most hSa
  have hmb := small_most hSb
  have oka : okS a := ⟨hma, hza⟩
  have okb : okS b := ⟨hmb, hzb⟩
  have hta := most_top a
  have htb := most_top b
  have hxa := exM_le a
  have hxb := exM_le b
  have hbo : ∀ G, bothR G s t = (G a b).map txO := fun G => by unfold bothR; rw [hra, hrb]
  have hcm : cmpR s t = .ok (cmpO a b) := by unfold cmpR; rw [hra, hrb]
  have hA7 : OM (fun k => k < w5.heap.size) w7 va a := hA.below hb67
  have hB7 : OM (fun k => k < w5.heap.size) w7 vb b := hB.more (fun k h => .inl (by have h : k < w5.heap.size := h; have := hb56.size; show k < w6.heap.size; omega))
  have hs57 : w5.heap.size ≤ w7.heap.size := (Below.via hb56 hb67).size
  have hS7 : ∀ i, (fun k => k < w5.heap.size) i → i < w7.heap.size := fun i h => by have h : i < w5.heap.size := h; omega
  rw [hcm, hbo, hbo, hbo, hbo, show outI (.ok (cmpO a b)) = cmpO a b from rfl, show outE (.ok (cmpO a b) : Except Int Int) = 0 from rfl]
  have hadd := add_sizes a b
  have hbls := bl_sizes a b
  have hme := most_eq (addO a b)
  have hmbl := most_eq (blO a b)
  have hbA : bigO (addO a b) = bigT (addO a b) := big_eq (by omega)
  have hbB : bigO (blO a b) = bigT (blO a b) := big_eq (by omega)
  have g1 : bigO (addO a b) = true → outS ((fullG (addC a b)).map txO) = [] ∧ outE ((fullG (addC a b)).map txO) = 5 := fun h => by
    rw [addC_eq oka]; unfold TW.chk; rw [if_pos (by rw [← hbA]; exact h)]; exact ⟨rfl, rfl⟩
  have g2 : bigO (addO a b) = false → outS ((fullG (addC a b)).map txO) = txO (addO a b) ∧ outE ((fullG (addC a b)).map txO) = 0 := fun h => by
    rw [addC_eq oka]; unfold TW.chk; rw [if_neg (by rw [← hbA, h]; simp)]; exact ⟨rfl, rfl⟩
  have g3 : bigO (blO a b) = true → outS ((blG a b).map txO) = [] ∧ outE ((blG a b).map txO) = 5 := fun h => by
    unfold blG; rw [if_pos (by rw [← hbB]; exact h)]; exact ⟨rfl, rfl⟩
  have g4 : bigO (blO a b) = false → outS ((blG a b).map txO) = txO (blO a b) ∧ outE ((blG a b).map txO) = 0 := fun h => by
    unfold blG; rw [if_neg (by rw [← hbB, h]; simp)]; exact ⟨rfl, rfl⟩
  generalize outS ((fullG (addC a b)).map txO) = s9 at *
  generalize outE ((fullG (addC a b)).map txO) = e10 at *
  generalize outS ((blG a b).map txO) = s11 at *
  generalize outE ((blG a b).map txO) = e12 at *
  (repeat (first | with_reducible refine W.seq ?_ | with_reducible refine Ops.nil ?_ | with_reducible refine W.region ?_ | refine z_p (kk := ?_) | refine z_y (kk := ?_)))
  refine W.condF rfl (by first | rfl | assumption | (simp only [bnf] <;> omega) | (simp only [*, bnf]; done) | fail) ?_
  (repeat (first | with_reducible refine W.seq ?_ | with_reducible refine W.region ?_ | refine z_p (kk := ?_) | with_reducible refine W.skip ?_))
  refine Ops.call rfl rfl rfl rfl rfl (rSum_c (S' := fun k => k < w5.heap.size) hS7 hA7 hB7 (by omega) (by omega) (by omega) (by omega)) (fun v8 w8 hR => ?_)
  obtain ⟨hO8, hb78⟩ := hR
  have hb08 := Below.via hb07 hb78
  have hs78 := hb78.size
  (repeat (first | refine z_p (kk := ?_)))
  refine Ops.call rfl rfl rfl rfl rfl (refBlend_c (S' := fun k => k < w5.heap.size) (fun i h => by have := hS7 i h; omega) (hA7.below hb78) (hB7.below hb78) (by omega) (by omega) (by omega) (by omega)) (fun v9 w9 hR => ?_)
  obtain ⟨hO9, hb89⟩ := hR
  have hb79 := Below.via hb78 hb89
  have hb09 := Below.via hb08 hb89
  have hs89 := hb89.size
  (repeat (first | with_reducible refine W.seq ?_ | with_reducible refine Ops.nil ?_ | with_reducible refine W.region ?_ | refine z_p (kk := ?_)))
  refine Ops.call rfl rfl rfl rfl rfl (rProduct_c (S' := fun k => k < w5.heap.size) (fun i h => by have := hS7 i h; omega) (hA7.below hb79) (hB7.below hb79) oka okb) (fun r w10 hR => ?_)
  obtain ⟨hor3, hb910⟩ := hR
  have hb010 := Below.via hb09 hb910
  have hb710 := Below.via hb79 hb910
  have hpr : ∃ v f, r = .tuple #[v, .bool f] ∧ (f = false → outS ((prodF a b).map txO) = [] ∧ outE ((prodF a b).map txO) = 5) ∧ (f = true → ∃ o, outS ((prodF a b).map txO) = txO o ∧ outE ((prodF a b).map txO) = 0 ∧ OM (fun k => k < w5.heap.size) w10 v o ∧ szO o ≤ 1000000 ∧ mostO o ≤ 9999) := by
    rcases hor3 with ⟨o, v, hp, rfl, hM, hk⟩ | ⟨v, hp, rfl⟩
    · exact ⟨v, true, rfl, fun h => by simp at h, fun _ => ⟨o, by unfold prodF; rw [hp]; rfl, by unfold prodF; rw [hp]; rfl, hM, by have := hk.2; omega, by have := hk.1; omega⟩⟩
    · exact ⟨v, false, rfl, fun _ => by unfold prodF; rw [hp]; exact ⟨rfl, rfl⟩, fun h => by simp at h⟩
  obtain ⟨vp, fp, rfl, g5, g6⟩ := hpr
  generalize outS ((prodF a b).map txO) = s13 at *
  generalize outE ((prodF a b).map txO) = e14 at *
  (repeat (first | with_reducible refine W.seq ?_ | with_reducible refine Ops.nil ?_ | with_reducible refine W.region ?_ | refine z_p (kk := ?_)))
  refine Ops.call rfl rfl rfl rfl rfl (refCompare_c _ (Nat.le_refl _) (hA7.below hb710) (hB7.below hb710)) (fun r w11 hR => ?_)
  obtain ⟨rfl, hb1011⟩ := hR
  have hb011 := Below.via hb010 hb1011
  have f1 : (cmpO a b != cmpO a b) = false := by simp
  have hO8' := hO8.below (Below.via hb89 (Below.via hb910 hb1011))
  have hO9' := hO9.below (Below.via hb910 hb1011)
  (repeat (first | refine z_p (kk := ?_) | refine z_y (kk := ?_) | refine z_h (kk := ?_)))
  refine Ops.call rfl rfl rfl rfl rfl (rFull_c (by omega) hO8') (fun r w12 hR => ?_)
  obtain ⟨rfl, hb1112⟩ := hR
  have hb012 := Below.via hb011 hb1112
  (repeat (first | refine z_y (kk := ?_)))
  refine Ops.call rfl rfl rfl rfl rfl (same_c (o := addO a b) g1 (fun h => ⟨(g2 h).1, (g2 h).2, hO8'.below hb1112, by have := of_decide_eq_false h; omega, by have := of_decide_eq_false h; omega⟩)) (fun r w13 hR => ?_)
  obtain ⟨rfl, hb1213⟩ := hR
  have hb013 := Below.via hb012 hb1213
  have hO9b := hO9'.below (Below.via hb1112 hb1213)
  (repeat (first | refine z_p (kk := ?_) | refine z_y (kk := ?_)))
  refine Ops.call rfl rfl rfl rfl rfl (rFull_c (by omega) hO9b) (fun r w14 hR => ?_)
  obtain ⟨rfl, hb1314⟩ := hR
  have hb014 := Below.via hb013 hb1314
  (repeat (first | refine z_y (kk := ?_)))
  refine Ops.call rfl rfl rfl rfl rfl (same_c (o := blO a b) g3 (fun h => ⟨(g4 h).1, (g4 h).2, hO9b.below hb1314, by have := of_decide_eq_false h; omega, by have := of_decide_eq_false h; omega⟩)) (fun r w15 hR => ?_)
  obtain ⟨rfl, hb1415⟩ := hR
  have hb015 := Below.via hb014 hb1415
  have hb1015 := Below.via (Below.via hb1011 hb1112) (Below.via hb1213 (Below.via hb1314 hb1415))
  have hps : Calls Tryz.prog 29 #[S s13, .int .i64 e14, vp, .bool (!fp)] w15 (Ret fun r w' => r = .bool true ∧ Below w15.heap.size w15 w') := by
    cases fp with
    | false => exact same_c (o := .nil) (S' := fun k => k < w5.heap.size) (fun _ => g5 rfl) (fun h => by simp at h)
    | true =>
      obtain ⟨o, p1, p2, p3, p4, p5⟩ := g6 rfl
      exact same_c (o := o) (fun h => by simp at h) (fun _ => ⟨p1, p2, p3.below hb1015, p4, p5⟩)
  (repeat (first | refine z_p (kk := ?_) | refine z_y (kk := ?_)))
  refine Ops.call rfl rfl rfl rfl rfl hps (fun r w16 hR => ?_)
  obtain ⟨rfl, hb1516⟩ := hR
  have hb016 := Below.via hb015 hb1516
  have hb716 := Below.via hb710 (Below.via hb1015 hb1516)
  have hs716 := hb716.size
  (repeat (first | with_reducible refine Ops.nil ?_ | refine z_p (kk := ?_) | refine z_y (kk := ?_)))
  refine W.condF rfl (by first | rfl | assumption | (simp only [bnf] <;> omega) | (simp only [*, bnf]; done) | fail) ?_
  (repeat (first | with_reducible refine W.seq ?_ | with_reducible refine W.region ?_ | refine z_p (kk := ?_) | with_reducible refine W.skip ?_))
  refine Ops.call rfl rfl rfl rfl rfl (rRest_c (S' := fun k => k < w5.heap.size) (fun i h => by have := hS7 i h; omega) (hA7.below hb716) (hB7.below hb716) oka okb) (fun r w17 hR => ?_)
  obtain ⟨hor4, hb1617⟩ := hR
  have hb017 := Below.via hb016 hb1617
  have hrr := rest_ref a b
  rcases hor4 with ⟨hgt, v17, rfl⟩ | ⟨hgt, v17, rfl, hM17⟩
  · rw [if_pos hgt] at hrr
    have q1 : restF a b = .error 6 := by unfold restF; rw [hrr]
    rw [q1, show outS ((.error 6 : Except Int Od).map txO) = [] from rfl, show outE ((.error 6 : Except Int Od).map txO) = 6 from rfl]
    (repeat (first | with_reducible refine W.seq ?_ | with_reducible refine Ops.nil ?_ | with_reducible refine W.region ?_ | refine z_p (kk := ?_)))
    refine W.condT rfl (by first | rfl | assumption | (simp only [bnf] <;> omega) | (simp only [*, bnf]; done) | fail) ?_
    (repeat (first | with_reducible refine W.seq ?_ | with_reducible refine W.region ?_ | refine z_p (kk := ?_) | refine z_y (kk := ?_) | refine z_ev (EV.seq rfl rfl rfl rfl) (kk := ?_)))
    refine Ops.call rfl rfl rfl rfl rfl (awake_c (hT.below hb017)) (fun r wz hR => ?_)
    obtain ⟨rfl, hbz⟩ := hR
    (repeat (first | with_reducible refine Ops.nil ?_ | refine z_p (kk := ?_)))
    exact W.fret rfl ⟨rfl, Below.via hb017 hbz⟩
  · rw [if_neg hgt] at hrr
    have q1 : restF a b = .ok (restG a b) := by unfold restF; rw [hrr]
    have hrs := rest_small hrr
    rw [q1, show outS ((.ok (restG a b) : Except Int Od).map txO) = txO (restG a b) from rfl, show outE ((.ok (restG a b) : Except Int Od).map txO) = 0 from rfl]
    (repeat (first | with_reducible refine W.seq ?_ | with_reducible refine Ops.nil ?_ | with_reducible refine W.region ?_ | refine z_p (kk := ?_)))
    refine W.condF rfl (by first | rfl | assumption | (simp only [bnf] <;> omega) | (simp only [*, bnf]; done) | fail) ?_
    (repeat (first | with_reducible refine W.seq ?_ | with_reducible refine W.region ?_ | refine z_p (kk := ?_) | with_reducible refine W.skip ?_))
    refine Ops.call rfl rfl rfl rfl rfl (same_c (o := restG a b) (B := false) (fun h => by simp at h) (fun _ => ⟨rfl, rfl, hM17, by omega, by omega⟩)) (fun r w18 hR => ?_)
    obtain ⟨rfl, hb1718⟩ := hR
    have hb018 := Below.via hb017 hb1718
    (repeat (first | refine z_p (kk := ?_) | refine z_y (kk := ?_)))
    refine Ops.call rfl rfl rfl rfl rfl (awake_c (hT.below hb018)) (fun r wz hR => ?_)
    obtain ⟨rfl, hbz⟩ := hR
    (repeat (first | with_reducible refine Ops.nil ?_ | refine z_p (kk := ?_)))
    exact W.fret rfl ⟨rfl, Below.via hb018 hbz⟩
end Go.Proofs.YtcmjlmnfdncajaaGreatDoor
