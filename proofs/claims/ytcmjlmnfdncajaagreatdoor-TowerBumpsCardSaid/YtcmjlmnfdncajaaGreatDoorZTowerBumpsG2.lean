/- A part of the walk: what this seat's statements share. -/
import Derived.Test.YtcmjlmnfdncajaaGreatDoorZTowerBumpsG1
import Derived.Test.YtcmjlmnfdncajaaGreatDoorZG8
import Derived.Test.YtcmjlmnfdncajaaGreatDoorZG10
set_option linter.unusedVariables false
set_option linter.unusedSimpArgs false
set_option linter.unusedSectionVars false
namespace Go.Proofs.YtcmjlmnfdncajaaGreatDoor
open Go Go.RowKit Go.Proofs.YtcmjlmnfdncajaaGreatDoor.VW Go.Proofs.YtcmjlmnfdncajaaGreatDoor.TW
attribute [local irreducible] W Ops OrdA VW.Ord OrdX Wi OpsI OrdF
def SO2 (N : Nat) (v1 v2 : Value) (i : Nat) : Prop := i < N ∨ v1.ownBlock = some i ∨ v2.ownBlock = some i
theorem OM.shH {S : Nat → Prop} {w : World} {v : Value} {o : Od} (h : OM S w v o) : ∃ x : HS, v = eH x := by
  obtain ⟨l, hR, hA⟩ := h
  obtain ⟨A, c, rfl⟩ := hR.sh
  exact ⟨(A, l.length, c), rfl⟩
def goodX (r b m : Nat) : Option (List Nat × List Od) := if 1152921504606846976 < m then none else goodL r b m
theorem goodX_more {r b m : Nat} (hm : m ≤ 1152921504606846976) (h : bigT (lif b m) = false) (h2 : m ≠ 0) (h3 : m ≤ bmp b m) : goodX (r + 1) b m = (goodX r (b + 1) (cap61 (bmp b m) - 1)).map (fun q => (m :: q.1, lif b m :: q.2)) := by
  unfold goodX
  rw [if_neg (by omega)]
  show (if bigT (lif b m) = true then none else if m = 0 then some ([m], [lif b m]) else if bmp b m ≤ 1152921504606846977 then (goodL r (b + 1) (bmp b m - 1)).map (fun q => (m :: q.1, lif b m :: q.2)) else none) = _
  rw [if_neg (by rw [h]; simp), if_neg h2]
  by_cases h4 : bmp b m ≤ 1152921504606846977
  · rw [if_pos h4, show cap61 (bmp b m) = bmp b m by unfold cap61; omega, if_neg (by omega)]
  · rw [if_neg h4, if_pos (by unfold cap61; omega)]; rfl
set_option maxHeartbeats 16000000 in
theorem rGood_c {w : World} {m0 n : Nat} (hm0 : m0 ≤ 1000000) (hn : n ≤ 50) :
    Calls Tryz.prog 41 #[.int .i64 (m0 : Int), .int .i64 (n : Int)] w (Ret fun r w' => ((goodL n 2 m0 = none ∧ ∃ v1 v2, r = .tuple #[v1, v2, .bool false]) ∨ (∃ q v1 v2 hs, goodL n 2 m0 = some q ∧ r = .tuple #[v1, v2, .bool true] ∧ SlI w' v1 (intL q.1) ∧ R1 (fun i => i < w.heap.size) w' v2 hs ∧ LM (fun i => i < w.heap.size) w' hs q.2)) ∧ Below w.heap.size w w') := by
  refine calls_W (vs := [_, _]) Tryz.func41 rfl (by kernel_rfl) rfl ?_
  (repeat (first | with_reducible refine W.seq ?_ | with_reducible refine Ops.nil ?_ | with_reducible refine W.region ?_ | refine Ops.pu rfl rfl rfl ?_ | with_reducible refine W.block ?_))
  refine W.loop (fun z ρ w1 => ∃ (m k : Nat) (ns : List Nat) (os : List Od) (hs : List HS) (v1 v2 : Value), z = n + 1 - k ∧ ρ = [(0, .int .i64 (m : Int)), (1, .int .i64 (n : Int)), (7, v1), (8, v2), (9, .int .i64 (k : Int))] ∧ k ≤ n + 1 ∧ m ≤ 2305843009213693952 ∧ Below w.heap.size w w1 ∧
      LO 3 (Value.int .i64) w.heap.size w1 v1 (intL ns) ∧ LO 42 eH w.heap.size w1 v2 hs ∧ (∀ i, v1.ownBlock = some i → v2.ownBlock ≠ some i) ∧ LM (SO2 w.heap.size v1 v2) w1 hs os ∧ ns.length = k ∧ os.length = k ∧
      (k ≤ n → goodL n 2 m0 = (goodX (n - k) (2 + k) m).map (fun q => (ns ++ q.1, os ++ q.2))) ∧ (k = n + 1 → goodL n 2 m0 = some (ns, os)))
    ⟨_, _, ⟨m0, 0, [], [], [], _, _, rfl, rfl, by omega, by omega, Below.refl _ _, LO.nil, LO.nil, fun i h => by simp [Value.ownBlock] at h, LM.nil, rfl, rfl, fun _ => by unfold goodX; rw [if_neg (by omega)]; cases goodL n 2 m0 <;> rfl, fun h => by omega⟩, (by repeat (first | exact trivial | refine And.intro rfl ?_))⟩ ?_
  rintro z ρ w1 ⟨m, k, ns, os, hs, v1, v2, rfl, rfl, hk, hm, hb1, hO1, hO2, hne, hL, hnl, hol, hgo, hend⟩
  have hb11 : Below w1.heap.size w1 w1 := Below.refl _ _
  have hil : (intL ns).length = ns.length := List.length_map _
  have hhl := hL.1
  have hfin : ∀ {w9 : World} {v1 v2 : Value} {ns : List Nat} {os : List Od} {hs : List HS}, Below w.heap.size w w9 → LO 3 (Value.int .i64) w.heap.size w9 v1 (intL ns) → LO 42 eH w.heap.size w9 v2 hs → LM (SO2 w.heap.size v1 v2) w9 hs os → hs.length ≤ 1000 → goodL n 2 m0 = some (ns, os) →
      ((goodL n 2 m0 = none ∧ ∃ u1 u2, Value.tuple #[v1, v2, .bool true] = .tuple #[u1, u2, .bool false]) ∨ (∃ q u1 u2 hs, goodL n 2 m0 = some q ∧ Value.tuple #[v1, v2, .bool true] = .tuple #[u1, u2, .bool true] ∧ SlI w9 u1 (intL q.1) ∧ R1 (fun i => i < w.heap.size) w9 u2 hs ∧ LM (fun i => i < w.heap.size) w9 hs q.2)) ∧ Below w.heap.size w w9 := fun hb g1 g2 g3 g4 g5 =>
    ⟨.inr ⟨_, _, _, _, g5, rfl, (g1.base hb.size).sl (z := (0 : Int)), g2.r1 hb.size (by omega) (fun i h => h), g3.1, fun i hi => (g3.2 i hi).more (fun j hj => .inl (.inl hj))⟩, hb⟩
  by_cases hkn : k ≤ n
  · have hg := hgo hkn
    obtain ⟨z1, z2⟩ := liftT_c (w := w) (b := 2 + k) (m := m) (by omega) (by omega) (by omega)
    have hmost := lif_most (b := 2 + k) (by omega) m m (Nat.le_refl _)
    have hmt := most_top (lif (2 + k) m)
    have hle := le_bmp (b := 2 + k) (by omega) m
    (repeat (first | with_reducible refine W.seq ?_ | with_reducible refine Ops.nil ?_ | with_reducible refine W.region ?_ | refine Ops.pu rfl rfl rfl ?_))
    refine W.condT rfl (by first | (simp; done) | (simp; omega)) ?_
    (repeat (first | with_reducible refine W.seq ?_ | with_reducible refine W.region ?_ | refine Ops.pu rfl rfl rfl ?_ | refine Ops.ar rfl rfl rfl (by omega) ?_ | with_reducible refine W.skip ?_ | with_reducible refine W.block ?_))
    rw [show (k : Int) + 2 = ((2 + k : Nat) : Int) by omega]
    refine Ops.call rfl rfl rfl rfl rfl (rBumped_c m hm (by omega) (by omega)) (fun r w2 hR => ?_)
    obtain ⟨vo, rfl, hM2, hb12⟩ := hR
    have hb02 := Below.via hb1 hb12
    have hs1 := hb1.size
    have hs2 := hb12.size
    have hfull : (1152921504606846976 < m ∨ 60 < szO (lif (2 + k) m)) → goodL n 2 m0 = none := fun h => by
      rw [hg]
      unfold goodX
      by_cases h1 : 1152921504606846976 < m
      · rw [if_pos h1]; rfl
      · rw [if_neg h1, goodL_big (decide_eq_true (by omega))]; rfl
    by_cases hbig : 1152921504606846976 < m ∨ 60 < szO (lif (2 + k) m)
    · have hno := hfull hbig
      by_cases h1 : 1152921504606846976 < m
      · (repeat (first | with_reducible refine W.seq ?_ | with_reducible refine Ops.nil ?_ | with_reducible refine W.region ?_ | refine Ops.pu rfl rfl rfl ?_ | refine Ops.no rfl rfl rfl rfl rfl ?_ | refine Ops.noB rfl rfl rfl rfl (by first | assumption | (simp only [Int.toNat_natCast, beq_self_eq_true, decide_eq_true_eq, decide_eq_false_iff_not, beq_iff_eq, bne_iff_ne, ne_eq, beq_eq_false_iff_ne, bne_eq_false_iff_eq, Bool.not_true, Bool.not_false, Bool.not_eq_true', Bool.not_eq_false', beq_true, beq_false, Bool.not_not, gt_iff_lt, ge_iff_le, Bool.and_eq_true, Bool.or_eq_true, Bool.and_eq_false_iff, Bool.or_eq_false_iff, decide_not]; omega) | (simp only [*, Int.toNat_natCast, beq_self_eq_true, decide_eq_true_eq, decide_eq_false_iff_not, beq_iff_eq, bne_iff_ne, ne_eq, beq_eq_false_iff_ne, bne_eq_false_iff_eq, Bool.not_true, Bool.not_false, Bool.not_eq_true', Bool.not_eq_false', beq_true, beq_false, Bool.not_not, gt_iff_lt, ge_iff_le, Bool.and_eq_true, Bool.or_eq_true, Bool.and_eq_false_iff, Bool.or_eq_false_iff, decide_not]; done) | fail) ?_))
        refine W.condT rfl (by first | (simp; done) | (simp; omega)) ?_
        (repeat (first | with_reducible refine W.seq ?_ | with_reducible refine Ops.nil ?_ | with_reducible refine W.region ?_ | refine Ops.pu rfl rfl rfl ?_))
        exact W.fret rfl ⟨.inl ⟨hno, _, _, rfl⟩, hb02⟩
      · have hd1 : decide ((m : Int) > 1152921504606846976) = false := decide_eq_false (by omega)
        (repeat (first | with_reducible refine W.seq ?_ | with_reducible refine Ops.nil ?_ | with_reducible refine W.region ?_ | refine Ops.pu rfl rfl rfl ?_ | refine Ops.yes rfl rfl rfl ?_ | refine Ops.yesB rfl rfl rfl rfl (by first | assumption | (simp only [Int.toNat_natCast, beq_self_eq_true, decide_eq_true_eq, decide_eq_false_iff_not, beq_iff_eq, bne_iff_ne, ne_eq, beq_eq_false_iff_ne, bne_eq_false_iff_eq, Bool.not_true, Bool.not_false, Bool.not_eq_true', Bool.not_eq_false', beq_true, beq_false, Bool.not_not, gt_iff_lt, ge_iff_le, Bool.and_eq_true, Bool.or_eq_true, Bool.and_eq_false_iff, Bool.or_eq_false_iff, decide_not]; omega) | (simp only [*, Int.toNat_natCast, beq_self_eq_true, decide_eq_true_eq, decide_eq_false_iff_not, beq_iff_eq, bne_iff_ne, ne_eq, beq_eq_false_iff_ne, bne_eq_false_iff_eq, Bool.not_true, Bool.not_false, Bool.not_eq_true', Bool.not_eq_false', beq_true, beq_false, Bool.not_not, gt_iff_lt, ge_iff_le, Bool.and_eq_true, Bool.or_eq_true, Bool.and_eq_false_iff, Bool.or_eq_false_iff, decide_not]; done) | fail) ?_))
        refine Ops.callS rfl rfl rfl rfl rfl (rSize_c _ (Nat.le_refl _) (by omega) hM2) ?_
        (repeat (first | with_reducible refine Ops.nil ?_ | refine Ops.pu rfl rfl rfl ?_ | refine Ops.yes rfl rfl rfl ?_))
        refine W.condT rfl (by first | (simp; done) | (simp; omega)) ?_
        (repeat (first | with_reducible refine W.seq ?_ | with_reducible refine Ops.nil ?_ | with_reducible refine W.region ?_ | refine Ops.pu rfl rfl rfl ?_))
        exact W.fret rfl ⟨.inl ⟨hno, _, _, rfl⟩, hb02⟩
    · have h1 : ¬ 1152921504606846976 < m := fun h => hbig (.inl h)
      have h2 : ¬ 60 < szO (lif (2 + k) m) := fun h => hbig (.inr h)
      have hnb : bigT (lif (2 + k) m) = false := decide_eq_false (by omega)
      have hd1 : decide ((m : Int) > 1152921504606846976) = false := decide_eq_false (by omega)
      clear hfull hbig
      (repeat (first | with_reducible refine W.seq ?_ | with_reducible refine Ops.nil ?_ | with_reducible refine W.region ?_ | refine Ops.pu rfl rfl rfl ?_ | refine Ops.yes rfl rfl rfl ?_ | refine Ops.yesB rfl rfl rfl rfl (by first | assumption | (simp only [Int.toNat_natCast, beq_self_eq_true, decide_eq_true_eq, decide_eq_false_iff_not, beq_iff_eq, bne_iff_ne, ne_eq, beq_eq_false_iff_ne, bne_eq_false_iff_eq, Bool.not_true, Bool.not_false, Bool.not_eq_true', Bool.not_eq_false', beq_true, beq_false, Bool.not_not, gt_iff_lt, ge_iff_le, Bool.and_eq_true, Bool.or_eq_true, Bool.and_eq_false_iff, Bool.or_eq_false_iff, decide_not]; omega) | (simp only [*, Int.toNat_natCast, beq_self_eq_true, decide_eq_true_eq, decide_eq_false_iff_not, beq_iff_eq, bne_iff_ne, ne_eq, beq_eq_false_iff_ne, bne_eq_false_iff_eq, Bool.not_true, Bool.not_false, Bool.not_eq_true', Bool.not_eq_false', beq_true, beq_false, Bool.not_not, gt_iff_lt, ge_iff_le, Bool.and_eq_true, Bool.or_eq_true, Bool.and_eq_false_iff, Bool.or_eq_false_iff, decide_not]; done) | fail) ?_))
      refine Ops.callS rfl rfl rfl rfl rfl (rSize_c _ (Nat.le_refl _) (by omega) hM2) ?_
      (repeat (first | with_reducible refine Ops.nil ?_ | refine Ops.pu rfl rfl rfl ?_ | refine Ops.yes rfl rfl rfl ?_))
      refine W.condF rfl (by first | (simp; done) | (simp; omega)) ?_
      have hO12 := hO1.below hb12
      have hO22 := hO2.below hb12
      have hL2 := hL.below hb12
      have hMx : OM (SO2 w.heap.size v1 v2) w2 vo (lif (2 + k) m) := hM2.more (fun j h => .inl (by
        show j < w1.heap.size
        rcases h with h | h | h
        · omega
        · exact (hO1.own.lt j h).2
        · exact (hO2.own.lt j h).2))
      obtain ⟨x, rfl⟩ := hMx.shH
      (repeat (first | with_reducible refine W.seq ?_ | with_reducible refine W.region ?_ | refine Ops.pu rfl rfl rfl ?_ | with_reducible refine W.skip ?_))
      refine Ops.pushO (enc := Value.int .i64) (u := (m : Int)) rfl rfl rfl rfl rfl rfl rfl rfl rfl rfl rfl rfl (fun _ => rfl) rfl (hO12.base hb02.size) (by omega) (fun v1' p w3 hO13 k3 hn3 => ?_)
      replace hO13 := LO.put hO13 hb02.size
      have hO23 := hO22.kp k3 (fun i hi e => hne i e hi)
      have hne3 : ∀ i, v1'.ownBlock = some i → v2.ownBlock ≠ some i := fun i hi e => by
        rcases hn3 i hi with q | q
        · exact hne i q e
        · have := (hO22.own.lt i e).2; omega
      have hst3 : ∀ i, SO2 w.heap.size v1' v2 i → SO2 w.heap.size v1 v2 i ∨ w2.heap.size ≤ i := fun i h => by
        rcases h with h | h | h
        · exact .inl (.inl h)
        · rcases hn3 i h with q | q
          · exact .inl (.inr (.inl q))
          · exact .inr q
        · exact .inl (.inr (.inr h))
      have hL3 := hL2.put k3 (fun i h => .inr (.inl h)) hst3
      have hM3 := hMx.put k3 (fun i h => .inr (.inl h)) hst3
      have hb03 : Below w.heap.size w w3 := Below.put hb02 k3 (fun j hj => hO12.ge j hj)
      rw [show intL ns ++ [(m : Int)] = intL (ns ++ [m]) by simp [intL]] at hO13
      (repeat (first | with_reducible refine W.seq ?_ | with_reducible refine Ops.nil ?_ | with_reducible refine W.region ?_ | refine Ops.pu rfl rfl rfl ?_))
      refine Ops.pushO (enc := eH) (u := x) rfl rfl rfl rfl rfl rfl rfl rfl rfl rfl rfl rfl (fun _ => rfl) rfl (hO23.base hb03.size) (by omega) (fun v2' p w4 hO24 k4 hn4 => ?_)
      replace hO24 := LO.put hO24 hb03.size
      have hO14 := hO13.kp k4 (fun i hi e => hne3 i hi e)
      have hne4 : ∀ i, v1'.ownBlock = some i → v2'.ownBlock ≠ some i := fun i hi e => by
        rcases hn4 i e with q | q
        · exact hne3 i hi q
        · have := (hO13.own.lt i hi).2; omega
      have hst4 : ∀ i, SO2 w.heap.size v1' v2' i → SO2 w.heap.size v1' v2 i ∨ w3.heap.size ≤ i := fun i h => by
        rcases h with h | h | h
        · exact .inl (.inl h)
        · exact .inl (.inr (.inl h))
        · rcases hn4 i h with q | q
          · exact .inl (.inr (.inr q))
          · exact .inr q
      have hL4 := (hL3.put k4 (fun i h => .inr (.inr h)) hst4).snoc (hM3.put k4 (fun i h => .inr (.inr h)) hst4)
      have hb04 : Below w.heap.size w w4 := Below.put hb03 k4 (fun j hj => hO23.ge j hj)
      have hgx : goodX (n - k) (2 + k) m = goodL (n - k) (2 + k) m := by unfold goodX; rw [if_neg h1]
      by_cases hm00 : m = 0
      · have hgs : goodL n 2 m0 = some (ns ++ [m], os ++ [lif (2 + k) m]) := by rw [hg, hgx, goodL_end hnb (.inl hm00)]; rfl
        subst hm00
        (repeat (first | with_reducible refine W.seq ?_ | with_reducible refine Ops.nil ?_ | with_reducible refine W.region ?_ | refine Ops.pu rfl rfl rfl ?_))
        refine W.condT rfl (by first | rfl | assumption | (simp only [Int.toNat_natCast, beq_self_eq_true, decide_eq_true_eq, decide_eq_false_iff_not, beq_iff_eq, bne_iff_ne, ne_eq, beq_eq_false_iff_ne, bne_eq_false_iff_eq, Bool.not_true, Bool.not_false, Bool.not_eq_true', Bool.not_eq_false', beq_true, beq_false, Bool.not_not, gt_iff_lt, ge_iff_le, Bool.and_eq_true, Bool.or_eq_true, Bool.and_eq_false_iff, Bool.or_eq_false_iff, decide_not] <;> omega) | (simp only [*, Int.toNat_natCast, beq_self_eq_true, decide_eq_true_eq, decide_eq_false_iff_not, beq_iff_eq, bne_iff_ne, ne_eq, beq_eq_false_iff_ne, bne_eq_false_iff_eq, Bool.not_true, Bool.not_false, Bool.not_eq_true', Bool.not_eq_false', beq_true, beq_false, Bool.not_not, gt_iff_lt, ge_iff_le, Bool.and_eq_true, Bool.or_eq_true, Bool.and_eq_false_iff, Bool.or_eq_false_iff, decide_not]; done) | fail) ?_
        (repeat (first | with_reducible refine W.seq ?_ | with_reducible refine Ops.nil ?_ | with_reducible refine W.region ?_ | refine Ops.pu rfl rfl rfl ?_ | refine W.exit rfl ?_))
        exact W.fret rfl (hfin hb04 hO14 hO24 hL4 (by simp; omega) hgs)
      · (repeat (first | with_reducible refine W.seq ?_ | with_reducible refine Ops.nil ?_ | with_reducible refine W.region ?_ | refine Ops.pu rfl rfl rfl ?_))
        refine W.condF rfl (by first | (simp; done) | (simp; omega)) ?_
        have hcl := cap_le (bmp (2 + k) m)
        have hcp : 1 ≤ cap61 (bmp (2 + k) m) := by unfold cap61; omega
        (repeat (first | with_reducible refine Ops.nil ?_ | with_reducible refine W.region ?_ | refine Ops.pu rfl rfl rfl ?_ | refine Ops.ar rfl rfl rfl (by omega) ?_ | with_reducible refine W.skip ?_ | with_reducible refine W.endb ?_))
        rw [show ((cap61 (bmp (2 + k) m) : Nat) : Int) - 1 = ((cap61 (bmp (2 + k) m) - 1 : Nat) : Int) by omega]
        refine W.endl ⟨_, _, ⟨⟨cap61 (bmp (2 + k) m) - 1, k + 1, ns ++ [m], os ++ [lif (2 + k) m], hs ++ [x], v1', v2', rfl, rfl, by omega, by omega, hb04, hO14, hO24, hne4, hL4, by simp; omega, by simp; omega, fun h => ?_, fun h => ?_⟩, by omega⟩, (by repeat (first | exact trivial | refine And.intro rfl ?_))⟩
        · obtain ⟨r, hr⟩ : ∃ r, n - k = r + 1 := ⟨n - k - 1, by omega⟩
          rw [hr, goodX_more (by omega) hnb hm00 hle] at hg
          rw [hg, show n - (k + 1) = r by omega, show 2 + (k + 1) = 2 + k + 1 by omega, Option.map_map]
          congr 1
          funext q
          simp
        · rw [hg, hgx, goodL_end hnb (.inr (by omega))]; rfl
  · have hk1 : k = n + 1 := by omega
    have hge := hend hk1
    (repeat (first | with_reducible refine W.seq ?_ | with_reducible refine Ops.nil ?_ | with_reducible refine W.region ?_ | refine Ops.pu rfl rfl rfl ?_))
    refine W.condF rfl (by first | (simp; done) | (simp; omega)) ?_
    (repeat (first | with_reducible refine W.seq ?_ | with_reducible refine Ops.nil ?_ | with_reducible refine W.region ?_ | refine Ops.pu rfl rfl rfl ?_ | refine W.exit rfl ?_))
    exact W.fret rfl (hfin hb1 hO1 hO2 hL (by omega) hge)
end Go.Proofs.YtcmjlmnfdncajaaGreatDoor
namespace Go.Proofs.YtcmjlmnfdncajaaGreatDoor
open Go Go.RowKit Go.Proofs.YtcmjlmnfdncajaaGreatDoor.VW Go.Proofs.YtcmjlmnfdncajaaGreatDoor.TW
attribute [local irreducible] W Ops OrdA VW.Ord OrdX Wi OpsI OrdF
theorem full_c (e : Int) (w : World) : Calls Tryz.prog 22 #[.int .i64 e] w (Ret fun r w' => r = .bool (decide (e = 5)) ∧ w' = w) := by
  refine calls_W (vs := [_]) Tryz.func22 rfl (by kernel_rfl) rfl ?_
  (repeat (first | with_reducible refine W.seq ?_ | with_reducible refine Ops.nil ?_ | with_reducible refine W.region ?_ | refine z_p (kk := ?_)))
  refine W.fret rfl ⟨?_, rfl⟩
  show Value.bool _ = _
  by_cases h : e = 5 <;> simp [h]
theorem modI_nat {a n : Nat} (h : a < 18446744073709551616) : modI (a : Int) (n : Int) = ((a % n : Nat) : Int) := by
  unfold modI
  rw [show (a : Int) % 18446744073709551616 = (a : Int) by omega]
  exact (Int.natCast_emod a n).symm
theorem modI_ex (x : Int) {n : Int} (h : 0 < n) : ∃ k : Nat, modI x n = (k : Int) ∧ (k : Int) < n := by
  have := modI_bd x h
  exact ⟨(modI x n).toNat, by omega, by omega⟩
theorem bumR_small {x b : Nat} (hb : 2 ≤ b) (hb2 : b ≤ 1000) (hx : x < b) : bumR (x : Int) (b : Int) = .ok (x, numO x) := by
  have h1 : bmp b x = x := bmp_small hb hx
  have h2 : lif b x = numO x := lif_small hb hx
  have h3 : bigT (numO x) = false := by
    unfold numO ptO
    split
    · exact decide_eq_false (by simp only [topO, szO]; omega)
    · rfl
  unfold bumR
  rw [if_pos (by omega), Int.toNat_natCast, Int.toNat_natCast, h1, h2, if_pos ⟨by omega, h3⟩]
theorem cmpR_ok {a b : Od} (ha : rdA (txO a) = some a) (hb : rdA (txO b) = some b) : cmpR (txO a) (txO b) = .ok (cmpO a b) := by
  unfold cmpR
  rw [ha, hb]
theorem txO_le {b m : Nat} (hb : 2 ≤ b) (hb2 : b ≤ 1000) (h : bigT (lif b m) = false) : (txO (lif b m)).length ≤ 4294967295 := by
  have h2 := lif_most hb m m (Nat.le_refl _)
  have h3 := of_decide_eq_false h
  have := txO_len (o := lif b m) (by omega)
  omega
theorem intL_get (l : List Nat) (i : Nat) : (intL l).getD i 0 = ((l.getD i 0 : Nat) : Int) := by
  unfold intL
  simp only [List.getD_eq_getElem?_getD, List.getElem?_map]
  cases l[i]? <;> rfl
theorem txL_get {l : List Od} {i : Nat} (h : i < l.length) : (l.map txO).getD i [] = txO (l.getD i .nil) := by
  simp [List.getD_eq_getElem?_getD, h]
set_option maxHeartbeats 8000000 in
theorem goodLaw_c {w : World} {m steps base : Int} (hT : Tbl w) : Calls Tryz.prog 9 #[.int .i64 m, .int .i64 steps, .int .i64 base] w (Ret fun r w' => r = .bool true ∧ Below w.heap.size w w') := by
  refine calls_W (vs := [_, _, _]) Tryz.func9 rfl (by kernel_rfl) rfl ?_
  obtain ⟨m0, hm, hm1⟩ := modI_ex m (n := 1000001) (by omega)
  obtain ⟨s0, hs, hs1⟩ := modI_ex steps (n := 51) (by omega)
  obtain ⟨c0, hc, hc1⟩ := modI_ex base (n := 999) (by omega)
  (repeat (first | with_reducible refine W.seq ?_ | with_reducible refine Ops.nil ?_ | with_reducible refine W.region ?_ | refine z_p (kk := ?_)))
  refine Ops.callS rfl rfl rfl rfl rfl (mod_c m 1000001 _ (by omega) (by omega)) ?_
  (repeat (first | refine z_p (kk := ?_)))
  refine Ops.callS rfl rfl rfl rfl rfl (mod_c steps 51 _ (by omega) (by omega)) ?_
  (repeat (first | with_reducible refine W.seq ?_ | with_reducible refine Ops.nil ?_ | with_reducible refine W.region ?_ | refine z_p (kk := ?_)))
  refine Ops.callS rfl rfl rfl rfl rfl (mod_c base 999 _ (by omega) (by omega)) ?_
  rw [hm, hs, hc]
  (repeat (first | with_reducible refine W.seq ?_ | with_reducible refine Ops.nil ?_ | with_reducible refine W.region ?_ | refine z_p (kk := ?_) | refine z_a (kk := ?_)))
  rw [show (2 : Int) + (c0 : Int) = ((c0 + 2 : Nat) : Int) by omega]
  generalize hb0 : c0 + 2 = b0 at *
  have hb2 : 2 ≤ b0 := by omega
  have hb3 : b0 ≤ 1000 := by omega
  refine Ops.call rfl rfl rfl rfl rfl (Goodstein_c (m := (m0 : Int)) (steps := (s0 : Int)) hT) (fun r w1 hR => ?_)
  obtain ⟨v1, v2, rfl, hG1, hG2, hne, hb1⟩ := hR
  (repeat (first | with_reducible refine W.seq ?_ | with_reducible refine Ops.nil ?_ | with_reducible refine W.region ?_ | refine z_p (kk := ?_)))
  refine Ops.callS rfl rfl rfl rfl rfl (mod_c _ _ _ (by omega) (by omega)) ?_
  rw [modI_nat (by omega)]
  have hx := Nat.mod_lt m0 (show b0 > 0 by omega)
  have hB := bumR_small hb2 hb3 hx
  have hN : numR ((m0 % b0 : Nat) : Int) = .ok (m0 % b0) := by unfold numR; rw [if_pos (by omega), Int.toNat_natCast]
  generalize hxm : m0 % b0 = x0 at *
  (repeat (first | refine z_p (kk := ?_)))
  refine Ops.call rfl rfl rfl rfl rfl (Bumped_c (hT.below hb1)) (fun r w2 hR => ?_)
  obtain ⟨rfl, hb12⟩ := hR
  have hb02 := Below.via hb1 hb12
  rw [hB, show (outN (.ok (x0, numO x0))).1 = (x0 : Int) from rfl, show (outN (.ok (x0, numO x0))).2 = txO (numO x0) from rfl, show outE (.ok (x0, numO x0) : Except Int (Nat × Od)) = 0 from rfl]
  (repeat (first | with_reducible refine W.seq ?_ | with_reducible refine Ops.nil ?_ | with_reducible refine W.region ?_ | refine z_p (kk := ?_)))
  refine Ops.callS rfl rfl rfl rfl rfl (mod_c _ _ _ (by omega) (by omega)) ?_
  rw [modI_nat (by omega), hxm]
  skip
  refine Ops.call rfl rfl rfl rfl rfl (Number_c (hT.below hb02)) (fun r w3 hR => ?_)
  obtain ⟨rfl, hb23⟩ := hR
  have hb03 := Below.via hb02 hb23
  have hb13 := Below.via hb12 hb23
  rw [hN, show outM (.ok x0) = txO (numO x0) from rfl, show outE (.ok x0 : Except Int Nat) = 0 from rfl]
  (repeat (first | with_reducible refine W.seq ?_ | with_reducible refine Ops.nil ?_ | with_reducible refine W.region ?_ | refine z_p (kk := ?_) | refine z_y (kk := ?_)))
  refine Ops.callS rfl rfl rfl rfl rfl (mod_c _ _ _ (by omega) (by omega)) ?_
  rw [modI_nat (by omega), hxm]
  (repeat (first | with_reducible refine Ops.nil ?_ | refine z_p (kk := ?_) | refine z_y (kk := ?_) | refine z_ev (EV.sne rfl rfl rfl rfl) (kk := ?_) | refine z_h (kk := ?_)))
  refine W.condF rfl (by simp) ?_
  (repeat (first | with_reducible refine W.seq ?_ | with_reducible refine Ops.nil ?_ | with_reducible refine W.region ?_ | refine z_p (kk := ?_) | with_reducible refine W.skip ?_))
  have hgr : goodR (m0 : Int) (s0 : Int) = match goodL s0 2 m0 with
      | none => .error 5
      | some q => .ok q := by
    unfold goodR
    rw [if_pos (by omega), Int.toNat_natCast, Int.toNat_natCast]
    cases goodL s0 2 m0 <;> rfl
  cases hq : goodL s0 2 m0 with
  | none =>
    rw [hq] at hgr
    simp only at hgr
    rw [hgr] at hG1 hG2 ⊢
    obtain ⟨A1, d1, rfl⟩ := hG1.sh
    obtain ⟨A2, d2, rfl⟩ := hG2.sh
    rw [show outE (.error 5 : Except Int (List Nat × List Od)) = 5 from rfl]
    rw [show (intL (outG (.error 5)).1).length = 0 from rfl, show ((outG (.error 5)).2.map txO).length = 0 from rfl]
    skip
    refine W.condT rfl (by first | rfl | assumption | (simp only [bnf] <;> omega) | (simp only [*, bnf]; done) | fail) ?_
    (repeat (first | with_reducible refine W.seq ?_ | with_reducible refine W.region ?_ | refine z_p (kk := ?_)))
    refine Ops.callS rfl rfl rfl rfl rfl (full_c _ _) ?_
    (repeat (first | refine z_p (kk := ?_) | refine z_y (kk := ?_) | refine z_l (kk := ?_)))
    refine Ops.call rfl rfl rfl rfl rfl (awake_c (hT.below hb03)) (fun r w4 hR => ?_)
    obtain ⟨rfl, hb34⟩ := hR
    (repeat (first | with_reducible refine Ops.nil ?_ | refine z_p (kk := ?_)))
    exact W.fret rfl ⟨rfl, Below.via hb03 hb34⟩
  | some q =>
    rw [hq] at hgr
    simp only at hgr
    rw [hgr] at hG1 hG2 ⊢
    rw [show outE (.ok q : Except Int (List Nat × List Od)) = 0 from rfl]
    obtain ⟨ns, os⟩ := q
    have hS := goodL_spec _ _ _ hq
    rw [show (outG (.ok (ns, os))).1 = ns from rfl] at hG1
    rw [show (outG (.ok (ns, os))).2 = os from rfl] at hG2
    have hsl1 : SlI w1 v1 (intL ns) := (hG1.base hb1.size).sl (z := (0 : Int))
    have hsl2 : SlT w1 v2 (os.map txO) := (hG2.base hb1.size).sl (z := ([] : List UInt8))
    have hn1 := Sl.len hsl1
    have hn2 := Sl.len hsl2
    obtain ⟨A1, d1, rfl⟩ := hG1.sh
    obtain ⟨A2, d2, rfl⟩ := hG2.sh
    have q1 := hS.pos
    have q2 := hS.le
    have q3 := hS.lo
    have hil : (intL ns).length = ns.length := by simp [intL]
    have hol : (os.map txO).length = ns.length := by simp [q3]
    have hg0 : (intL ns).getD 0 0 = (m0 : Int) := by
      have := hS.hd
      rw [intL_get, this]
    skip
    refine W.condF rfl (by first | rfl | assumption | (simp only [bnf] <;> omega) | (simp only [*, bnf]; done) | fail) ?_
    (repeat (first | with_reducible refine W.seq ?_ | with_reducible refine W.region ?_ | refine z_p (kk := ?_) | refine z_a (kk := ?_) | refine z_y (kk := ?_) | with_reducible refine W.skip ?_ | refine z_l (kk := ?_) | refine z_K (kk := fun _ => ?_) | refine z_h (kk := ?_)))
    rw [show Int.toNat 0 = 0 from rfl, hg0]
    have hne0 : ((m0 : Int) != (m0 : Int)) = false := by simp
    rw [hne0]
    have hlast : ns.length ≤ s0 → (intL ns).getD (((intL ns).length : Int) - 1).toNat 0 = 0 := fun h => by
      rw [show (((intL ns).length : Int) - 1).toNat = ns.length - 1 by omega, intL_get, hS.fin h]; rfl
    refine Ops.cut (fun ρ w' => ρ = [(7, .slice A1 (intL ns).length d1), (8, .slice A2 (os.map txO).length d2), (124, .bool false)] ∧ w' = w3) ?_ ?_
    · (repeat (first | refine z_p (kk := ?_) | refine z_y (kk := ?_) | refine z_l (kk := ?_)))
      by_cases hle : ns.length ≤ s0
      · have hl0 := hlast hle
        (repeat (first | with_reducible refine Ops.nil ?_ | refine z_p (kk := ?_) | refine z_a (kk := ?_) | refine z_y (kk := ?_) | refine z_l (kk := ?_) | refine z_K (kk := fun _ => ?_) | refine z_h (kk := ?_)))
        rw [hl0]
        skip
        exact W.endl ⟨_, ⟨rfl, rfl⟩, (by repeat (first | exact trivial | refine And.intro rfl ?_))⟩
      · (repeat (first | with_reducible refine Ops.nil ?_ | refine z_p (kk := ?_) | refine z_y (kk := ?_) | refine z_n (kk := ?_) | refine z_g (kk := ?_)))
        exact W.endl ⟨_, ⟨rfl, rfl⟩, (by repeat (first | exact trivial | refine And.intro rfl ?_))⟩
    rintro ρ w3' ⟨rfl, rfl⟩
    clear hlast hne0 hB hN
    skip
    refine W.condF rfl (by first | rfl | assumption | (simp only [bnf] <;> omega) | (simp only [*, bnf]; done) | fail) ?_
    (repeat (first | with_reducible refine W.seq ?_ | with_reducible refine Ops.nil ?_ | with_reducible refine W.region ?_ | refine z_p (kk := ?_) | with_reducible refine W.skip ?_ | with_reducible refine W.block ?_))
    have hb33 : Below w3'.heap.size w3' w3' := Below.refl _ _
    have hsl1' := Sl.below hsl1 hb13
    have hsl2' := Sl.below hsl2 hb13
    refine W.loop (fun k ρ w4 => ∃ i : Nat, k = ns.length - i ∧ i ≤ ns.length ∧ ρ = [(7, .slice A1 (intL ns).length d1), (8, .slice A2 (os.map txO).length d2), (15, .int .i64 i)] ∧ Below w3'.heap.size w3' w4)
      ⟨_, _, ⟨0, rfl, Nat.zero_le _, rfl, hb33⟩, (by repeat (first | exact trivial | refine And.intro rfl ?_))⟩ ?_
    rintro k ρ w4 ⟨i, rfl, hi, rfl, hb34⟩
    have hb44 : Below w4.heap.size w4 w4 := Below.refl _ _
    have hT4 := hT.below (Below.via hb03 hb34)
    (repeat (first | with_reducible refine W.seq ?_ | with_reducible refine Ops.nil ?_ | with_reducible refine W.region ?_ | refine z_p (kk := ?_) | refine z_l (kk := ?_)))
    (first | refine W.condD rfl (fun hc => ?_) (fun hc => ?_) | refine W.condE rfl (fun hc => ?_) (fun hc => ?_) | refine W.condN rfl (fun hc => ?_) (fun hc => ?_) | refine W.cond rfl (fun hc => ?_) (fun hc => ?_))
    · have hin : i < ns.length := by omega
      have ho := hS.od i hin
      have hgi : (intL ns).getD i 0 = ((ns.getD i 0 : Nat) : Int) := intL_get _ _
      have hti : (os.map txO).getD i [] = txO (os.getD i .nil) := txL_get (by omega)
      rw [ho.1] at hti
      generalize hni : ns.getD i 0 = ni at *
      have hrd := rdA_lif (b := 2 + i) (m := ni) (by omega) (by omega) ho.2
      have hln := txO_le (b := 2 + i) (m := ni) (by omega) (by omega) ho.2
      (repeat (first | with_reducible refine W.seq ?_ | with_reducible refine Ops.nil ?_ | with_reducible refine W.region ?_ | refine z_p (kk := ?_) | with_reducible refine W.skip ?_ | with_reducible refine W.block ?_))
      refine W.cut (fun ρ w5 => ρ = [(7, .slice A1 (intL ns).length d1), (8, .slice A2 (os.map txO).length d2), (15, .int .i64 i)] ∧ Below w3'.heap.size w3' w5) ?_ ?_
      · by_cases hi0 : 0 < i
        · have ho1 := hS.od (i - 1) (by omega)
          obtain ⟨n1, n2, n3⟩ := hS.nxt (i - 1) (by omega)
          rw [show i - 1 + 1 = i by omega, hni] at n3
          have hgi1 : (intL ns).getD ((i : Int) - 1).toNat 0 = ((ns.getD (i - 1) 0 : Nat) : Int) := by rw [show ((i : Int) - 1).toNat = i - 1 by omega]; exact intL_get _ _
          have hti1 : (os.map txO).getD ((i : Int) - 1).toNat [] = txO (os.getD (i - 1) .nil) := by rw [show ((i : Int) - 1).toNat = i - 1 by omega]; exact txL_get (by omega)
          rw [ho1.1] at hti1
          generalize hn1i : ns.getD (i - 1) 0 = nj at *
          have hrd1 := rdA_lif (b := 2 + (i - 1)) (m := nj) (by omega) (by omega) ho1.2
          have hln1 := txO_le (b := 2 + (i - 1)) (m := nj) (by omega) (by omega) ho1.2
          have hdn := good_down (b := 2 + (i - 1)) (n := nj) (by omega) n1
          rw [← n3, show 2 + (i - 1) + 1 = 2 + i by omega] at hdn
          have hcr := cmpR_ok hrd hrd1
          rw [hdn] at hcr
          refine W.condT rfl (by first | rfl | assumption | (simp only [bnf] <;> omega) | (simp only [*, bnf]; done) | fail) ?_
          (repeat (first | with_reducible refine W.seq ?_))
          refine W.ordA 99 [(0, 1), (1, 1), (2, 1), (3, 2), (4, 1), (5, 1), (6, 1), (7, 1), (8, 2), (9, 2), (10, 1), (11, 1), (12, 1), (13, 1), (14, 1)] rfl (by kernel_rfl) rfl (by kernel_rfl) (fun _ _ _ h => h) ?_
          (repeat (first | refine x_p (kk := ?_) | refine x_a (kk := ?_) | refine x_TJ (kk := fun _ => ?_) | refine x_TL (kk := fun _ => ?_)))
          rw [hti, hti1]
          refine OrdA.call rfl rfl rfl rfl rfl rfl rfl (fun w' hw' => Calls.via hw' (Compare_c hln hln1)) ?_
          rw [hcr, show outI (.ok (-1) : Except Int Int) = -1 from rfl, show outE (.ok (-1) : Except Int Int) = 0 from rfl]
          (repeat (first | refine x_p (kk := ?_)))
          refine OrdA.nil (fun w5 hb45 => ?_)
          have hb35 := Below.via hb34 hb45
          (repeat (first | with_reducible refine W.seq ?_ | with_reducible refine Ops.nil ?_ | with_reducible refine W.region ?_ | refine z_p (kk := ?_) | refine z_a (kk := ?_) | refine z_y (kk := ?_) | refine z_K (kk := fun _ => ?_)))
          rw [hgi1]
          have hnj : (((nj : Nat) : Int) == 0) = false := by simp; omega
          rw [hnj]
          skip
          refine W.condF rfl (by simp) ?_
          (repeat (first | with_reducible refine W.skip ?_))
          exact W.endl ⟨_, ⟨rfl, hb35⟩, (by repeat (first | exact trivial | refine And.intro rfl ?_))⟩
        · refine W.condF rfl (by first | rfl | assumption | (simp only [bnf] <;> omega) | (simp only [*, bnf]; done) | fail) ?_
          (repeat (first | with_reducible refine W.skip ?_))
          exact W.endl ⟨_, ⟨rfl, hb34⟩, (by repeat (first | exact trivial | refine And.intro rfl ?_))⟩
      · rintro ρ w5 ⟨rfl, hb35⟩
        have hb55 : Below w5.heap.size w5 w5 := Below.refl _ _
        have hT5 := hT.below (Below.via hb03 hb35)
        (repeat (first | with_reducible refine W.seq ?_ | with_reducible refine Ops.nil ?_ | with_reducible refine W.region ?_ | refine z_p (kk := ?_) | refine z_I (kk := fun _ => ?_)))
        rw [hgi]
        by_cases hbig : ni > 1000000
        · refine W.condT rfl (by simp; omega) ?_
          (repeat (first | with_reducible refine Ops.nil ?_ | with_reducible refine W.region ?_ | refine z_p (kk := ?_) | refine z_a (kk := ?_) | refine W.exit rfl ?_))
          exact W.endl ⟨_, _, ⟨⟨i + 1, rfl, by omega, rfl, hb35⟩, by omega⟩, (by repeat (first | exact trivial | refine And.intro rfl ?_))⟩
        · refine W.condF rfl (by simp; omega) ?_
          have hbr : bumR (ni : Int) ((2 + i : Nat) : Int) = if bmp (2 + i) ni ≤ 1152921504606846976 ∧ bigT (lif (2 + i) ni) = false then .ok (bmp (2 + i) ni, lif (2 + i) ni) else .error 5 := by
            unfold bumR
            rw [if_pos (by omega), Int.toNat_natCast, Int.toNat_natCast]
          (repeat (first | with_reducible refine W.seq ?_ | with_reducible refine W.region ?_ | refine z_p (kk := ?_) | refine z_a (kk := ?_) | with_reducible refine W.skip ?_ | refine z_I (kk := fun _ => ?_)))
          rw [hgi, show (2 : Int) + (i : Int) = ((2 + i : Nat) : Int) by omega]
          refine Ops.call rfl rfl rfl rfl rfl (Bumped_c hT5) (fun r w6 hR => ?_)
          obtain ⟨rfl, hb56⟩ := hR
          have hb36 := Below.via hb35 hb56
          rw [hbr]
          have hfin : ∀ ρ, Sub [(7, .slice A1 (intL ns).length d1), (8, .slice A2 (os.map txO).length d2), (15, .int .i64 i)] ρ → True := fun _ _ => trivial
          by_cases hok : bmp (2 + i) ni ≤ 1152921504606846976
          · rw [if_pos ⟨hok, ho.2⟩, show (outN (.ok (bmp (2 + i) ni, lif (2 + i) ni))).1 = (bmp (2 + i) ni : Int) from rfl, show (outN (.ok (bmp (2 + i) ni, lif (2 + i) ni))).2 = txO (lif (2 + i) ni) from rfl, show outE (.ok (bmp (2 + i) ni, lif (2 + i) ni) : Except Int (Nat × Od)) = 0 from rfl]
            (repeat (first | with_reducible refine W.seq ?_ | with_reducible refine Ops.nil ?_ | with_reducible refine W.region ?_ | refine z_p (kk := ?_) | refine z_y (kk := ?_) | refine z_TJ (kk := fun _ => ?_) | refine z_ev (EV.sne rfl rfl rfl rfl) (kk := ?_)))
            have hd : decide (txO (lif (2 + i) ni) = txO (lif (2 + i) ni)) = true := by simp
            rw [hti, hd]
            by_cases hi1 : i + 1 < ns.length
            · obtain ⟨n1, n2, n3⟩ := hS.nxt i hi1
              rw [hni] at n1 n2 n3
              have hle := le_bmp (b := 2 + i) (by omega) ni
              have hgi2 : (intL ns).getD ((i : Int) + 1).toNat 0 = ((bmp (2 + i) ni : Nat) : Int) - 1 := by rw [show ((i : Int) + 1).toNat = i + 1 by omega, intL_get, n3]; omega
              (repeat (first | with_reducible refine Ops.nil ?_ | refine z_p (kk := ?_) | refine z_a (kk := ?_) | refine z_y (kk := ?_) | refine z_n (kk := ?_) | refine z_l (kk := ?_) | refine z_K (kk := fun _ => ?_) | refine z_h (kk := ?_)))
              rw [hgi2]
              have hd2 : (((bmp (2 + i) ni : Nat) : Int) - 1 != ((bmp (2 + i) ni : Nat) : Int) - 1) = false := by simp
              rw [hd2]
              skip
              refine W.condF rfl (by simp) ?_
              (repeat (first | with_reducible refine Ops.nil ?_ | with_reducible refine W.region ?_ | refine z_p (kk := ?_) | refine z_a (kk := ?_) | with_reducible refine W.skip ?_ | with_reducible refine W.endb ?_))
              exact W.endl ⟨_, _, ⟨⟨i + 1, rfl, by omega, rfl, hb36⟩, by omega⟩, (by repeat (first | exact trivial | refine And.intro rfl ?_))⟩
            · (repeat (first | with_reducible refine Ops.nil ?_ | refine z_p (kk := ?_) | refine z_a (kk := ?_) | refine z_y (kk := ?_) | refine z_n (kk := ?_) | refine z_l (kk := ?_) | refine z_g (kk := ?_)))
              refine W.condF rfl (by simp) ?_
              (repeat (first | with_reducible refine Ops.nil ?_ | with_reducible refine W.region ?_ | refine z_p (kk := ?_) | refine z_a (kk := ?_) | with_reducible refine W.skip ?_ | with_reducible refine W.endb ?_))
              exact W.endl ⟨_, _, ⟨⟨i + 1, rfl, by omega, rfl, hb36⟩, by omega⟩, (by repeat (first | exact trivial | refine And.intro rfl ?_))⟩
          · rw [if_neg (fun h => hok h.1), show (outN (.error 5)).1 = 0 from rfl, show (outN (.error 5)).2 = [] from rfl, show outE (.error 5 : Except Int (Nat × Od)) = 5 from rfl]
            by_cases hi1 : i + 1 < ns.length
            · obtain ⟨n1, n2, n3⟩ := hS.nxt i hi1
              rw [hni] at n1 n2 n3
              have hgi2 : (intL ns).getD ((i : Int) + 1).toNat 0 = 1152921504606846976 := by rw [show ((i : Int) + 1).toNat = i + 1 by omega, intL_get, n3]; omega
              (repeat (first | with_reducible refine W.seq ?_ | with_reducible refine Ops.nil ?_ | with_reducible refine W.region ?_ | refine z_p (kk := ?_) | refine z_a (kk := ?_) | refine z_y (kk := ?_) | refine z_n (kk := ?_) | refine z_u (kk := ?_) | refine z_l (kk := ?_) | refine z_K (kk := fun _ => ?_) | refine z_h (kk := ?_)))
              rw [hgi2]
              skip
              refine W.condF rfl (by simp) ?_
              (repeat (first | with_reducible refine Ops.nil ?_ | with_reducible refine W.region ?_ | refine z_p (kk := ?_) | refine z_a (kk := ?_) | with_reducible refine W.skip ?_ | with_reducible refine W.endb ?_))
              exact W.endl ⟨_, _, ⟨⟨i + 1, rfl, by omega, rfl, hb36⟩, by omega⟩, (by repeat (first | exact trivial | refine And.intro rfl ?_))⟩
            · (repeat (first | with_reducible refine W.seq ?_ | with_reducible refine Ops.nil ?_ | with_reducible refine W.region ?_ | refine z_p (kk := ?_) | refine z_a (kk := ?_) | refine z_y (kk := ?_) | refine z_n (kk := ?_) | refine z_u (kk := ?_) | refine z_l (kk := ?_) | refine z_g (kk := ?_)))
              refine W.condF rfl (by simp) ?_
              (repeat (first | with_reducible refine Ops.nil ?_ | with_reducible refine W.region ?_ | refine z_p (kk := ?_) | refine z_a (kk := ?_) | with_reducible refine W.skip ?_ | with_reducible refine W.endb ?_))
              exact W.endl ⟨_, _, ⟨⟨i + 1, rfl, by omega, rfl, hb36⟩, by omega⟩, (by repeat (first | exact trivial | refine And.intro rfl ?_))⟩
    · (repeat (first | with_reducible refine W.seq ?_ | with_reducible refine W.region ?_ | refine W.exit rfl ?_))
      refine Ops.call rfl rfl rfl rfl rfl (awake_c hT4) (fun r w5 hR => ?_)
      obtain ⟨rfl, hb45⟩ := hR
      (repeat (first | with_reducible refine Ops.nil ?_ | refine z_p (kk := ?_)))
      exact W.fret rfl ⟨rfl, Below.via hb03 (Below.via hb34 hb45)⟩
end Go.Proofs.YtcmjlmnfdncajaaGreatDoor
namespace Go.Proofs.YtcmjlmnfdncajaaGreatDoor
open Go Go.RowKit Go.Proofs.YtcmjlmnfdncajaaGreatDoor.VW Go.Proofs.YtcmjlmnfdncajaaGreatDoor.TW
attribute [local irreducible] W Ops OrdA VW.Ord OrdX Wi OpsI OrdF
theorem numO_szm (n : Nat) : szO (numO n) ≤ 1 ∧ mostO (numO n) ≤ n := by
  unfold numO ptO
  split
  · simp [szO, mostO]
  · simp [szO, mostO]
set_option maxHeartbeats 16000000 in
theorem bumps_c {w : World} {m base steps : Int} (hT : Tbl w) : Calls Tryz.prog 8 #[.int .i64 m, .int .i64 base, .int .i64 steps] w (Ret fun r w' => r = .bool true ∧ Below w.heap.size w w') := by
  refine calls_W (vs := [_, _, _]) Tryz.func8 rfl (by kernel_rfl) rfl ?_
  (repeat (first | with_reducible refine W.seq ?_ | with_reducible refine Ops.nil ?_ | with_reducible refine W.region ?_ | refine z_p (kk := ?_)))
  refine Ops.call rfl rfl rfl rfl rfl (Bumped_c (m := m) (base := base) hT) (fun r w1 hR => ?_)
  obtain ⟨rfl, hb1⟩ := hR
  (repeat (first | with_reducible refine W.seq ?_ | with_reducible refine Ops.nil ?_ | with_reducible refine W.region ?_ | refine z_p (kk := ?_)))
  refine Ops.call rfl rfl rfl rfl rfl (Goodstein_c (m := m) (steps := steps) (hT.below hb1)) (fun r w2 hR => ?_)
  obtain ⟨v1, v2, rfl, hG1, hG2, hne, hb12⟩ := hR
  have hb02 := Below.via hb1 hb12
  (repeat (first | with_reducible refine W.seq ?_ | with_reducible refine Ops.nil ?_ | with_reducible refine W.region ?_ | refine z_p (kk := ?_)))
  refine Ops.call rfl rfl rfl rfl rfl (Number_c (n := m) (hT.below hb02)) (fun r w3 hR => ?_)
  obtain ⟨rfl, hb23⟩ := hR
  have hb03 := Below.via hb02 hb23
  have hS1 : SlI w3 v1 (intL (outG (goodR m steps)).1) := Sl.below ((hG1.base hb12.size).sl (z := (0 : Int))) hb23
  have hS2 : SlT w3 v2 ((outG (goodR m steps)).2.map txO) := Sl.below ((hG2.base hb12.size).sl (z := ([] : List UInt8))) hb23
  obtain ⟨A1, d1, rfl⟩ := hG1.sh
  obtain ⟨A2, d2, rfl⟩ := hG2.sh
  clear hG1 hG2 hne
  have hT3 := hT.below hb03
  generalize hX : outN (bumR m base) = X at *
  generalize hE : outE (bumR m base) = eB at *
  generalize hGo : outG (goodR m steps) = GX at *
  generalize hGe : outE (goodR m steps) = eG at *
  have hc1 := Sl.len hS1
  have hc2 := Sl.len hS2
  refine Ops.cut (fun ρ w' => ρ = [(0, .int .i64 m), (1, .int .i64 base), (2, .int .i64 steps), (7, .int .i64 X.1), (8, S X.2), (9, .int .i64 eB), (10, .slice A1 (intL GX.1).length d1), (11, .slice A2 (GX.2.map txO).length d2), (12, .int .i64 eG), (13, S (outM (numR m))), (14, .int .i64 (outE (numR m)))] ∧ w' = w3) ?_ ?_
  · (repeat (first | with_reducible refine Ops.nil ?_ | refine z_p (kk := ?_)))
    exact W.endl ⟨_, ⟨rfl, rfl⟩, (by repeat (first | exact trivial | refine And.intro rfl ?_))⟩
  rintro ρ w3' ⟨rfl, rfl⟩
  refine W.seq ?_
  refine W.cut (fun ρ w' => ρ = [(0, .int .i64 m), (1, .int .i64 base), (2, .int .i64 steps), (7, .int .i64 X.1), (8, S X.2), (9, .int .i64 eB), (10, .slice A1 (intL GX.1).length d1), (11, .slice A2 (GX.2.map txO).length d2), (12, .int .i64 eG)] ∧ Below w3'.heap.size w3' w') ?_ ?_
  · by_cases hr : 0 ≤ m ∧ m ≤ 1000
    · have hN : numR m = .ok m.toNat := by unfold numR; rw [if_pos hr]
      obtain ⟨m0, rfl⟩ : ∃ m0 : Nat, m = (m0 : Int) := ⟨m.toNat, by omega⟩
      obtain ⟨z1, z2⟩ := numO_szm m0
      rw [hN, Int.toNat_natCast, show outM (.ok m0) = txO (numO m0) from rfl, show outE (.ok m0 : Except Int Nat) = 0 from rfl]
      have hq1 : decide ((m0 : Int) < 0) = false := decide_eq_false (by omega)
      (repeat (first | with_reducible refine W.seq ?_ | with_reducible refine Ops.nil ?_ | with_reducible refine W.region ?_ | refine z_p (kk := ?_) | refine z_y (kk := ?_)))
      refine W.condF rfl (by first | (simp; done) | (simp; omega)) ?_
      (repeat (first | with_reducible refine W.seq ?_ | with_reducible refine W.region ?_ | refine z_p (kk := ?_)))
      refine Ops.call rfl rfl rfl rfl rfl (rNumber_c (n := m0)) (fun r w4 hR => ?_)
      obtain ⟨hM4, hb4⟩ := hR
      skip
      refine Ops.call rfl rfl rfl rfl rfl (refText_c _ (Nat.le_refl _) (by omega) (by omega) hM4) (fun r w5 hR => ?_)
      obtain ⟨rfl, hb5⟩ := hR
      have hd : (!decide (txO (numO m0) = txO (numO m0))) = false := by simp
      (repeat (first | with_reducible refine Ops.nil ?_ | refine z_p (kk := ?_) | refine z_y (kk := ?_) | refine z_ev (EV.sne rfl rfl rfl rfl) (kk := ?_) | refine z_h (kk := ?_)))
      refine W.condF rfl (by first | rfl | assumption | (simp; done) | (simp; omega)) ?_
      (repeat (first | with_reducible refine W.skip ?_))
      exact W.endl ⟨_, ⟨rfl, Below.via hb4 hb5⟩, (by repeat (first | exact trivial | refine And.intro rfl ?_))⟩
    · have hN : numR m = .error 2 := by unfold numR; rw [if_neg hr]
      rw [hN, show outM (.error 2) = [] from rfl, show outE (.error 2 : Except Int Nat) = 2 from rfl]
      by_cases h0 : m < 0
      all_goals (
        (repeat (first | with_reducible refine W.seq ?_ | with_reducible refine Ops.nil ?_ | with_reducible refine W.region ?_ | refine z_p (kk := ?_) | refine z_y (kk := ?_) | refine z_n (kk := ?_) | refine z_g (kk := ?_) | refine z_h (kk := ?_)))
        refine W.condT rfl (by first | (simp; done) | (simp; omega)) ?_
        (repeat (first | with_reducible refine W.seq ?_ | with_reducible refine Ops.nil ?_ | with_reducible refine W.region ?_ | refine z_p (kk := ?_) | refine z_y (kk := ?_) | refine z_ev (EV.sne rfl rfl rfl rfl) (kk := ?_)))
        refine W.condF rfl (by first | rfl | assumption | (simp; done) | (simp; omega)) ?_
        (repeat (first | with_reducible refine W.skip ?_))
        exact W.endl ⟨_, ⟨rfl, Below.refl _ _⟩, (by repeat (first | exact trivial | refine And.intro rfl ?_))⟩)
  rintro ρ w4 ⟨rfl, hb34⟩
  have hb04 := Below.via hb03 hb34
  have hb44 : Below w4.heap.size w4 w4 := Below.refl _ _
  by_cases hok : 0 ≤ m ∧ m ≤ 1000000
  · obtain ⟨m0, rfl⟩ : ∃ m0 : Nat, m = (m0 : Int) := ⟨m.toNat, by omega⟩
    have hq1 : decide ((m0 : Int) ≥ 0) = true := decide_eq_true (by omega)
    have hq2 : decide ((m0 : Int) ≤ 1000000) = true := decide_eq_true (by omega)
    refine W.seq ?_
    refine W.cut (fun ρ w' => ρ = [(0, .int .i64 (m0 : Int)), (1, .int .i64 base), (2, .int .i64 steps), (7, .int .i64 X.1), (8, S X.2), (9, .int .i64 eB), (10, .slice A1 (intL GX.1).length d1), (11, .slice A2 (GX.2.map txO).length d2), (12, .int .i64 eG), (15, .bool true)] ∧ w' = w4) ?_ ?_
    · (repeat (first | with_reducible refine Ops.nil ?_ | with_reducible refine W.region ?_ | refine z_p (kk := ?_) | refine z_y (kk := ?_)))
      exact W.endl ⟨_, ⟨rfl, rfl⟩, (by repeat (first | exact trivial | refine And.intro rfl ?_ | refine And.intro (look_b rfl (by first | rfl | assumption | (simp only [bnf] <;> omega) | (simp only [*, bnf]; done) | fail)) ?_))⟩
    rintro ρ w4' ⟨rfl, rfl⟩
    refine W.seq ?_
    refine W.cut (fun ρ w' => ρ = [(0, .int .i64 (m0 : Int)), (2, .int .i64 steps), (10, .slice A1 (intL GX.1).length d1), (11, .slice A2 (GX.2.map txO).length d2), (12, .int .i64 eG), (15, .bool true)] ∧ Below w4'.heap.size w4' w') ?_ ?_
    · by_cases hbr : 2 ≤ base ∧ base ≤ 1000
      · obtain ⟨b0, rfl⟩ : ∃ b0 : Nat, base = (b0 : Int) := ⟨base.toNat, by omega⟩
        have hB : bumR (m0 : Int) (b0 : Int) = if bmp b0 m0 ≤ 1152921504606846976 ∧ bigT (lif b0 m0) = false then .ok (bmp b0 m0, lif b0 m0) else .error 5 := by
          unfold bumR
          rw [if_pos ⟨hok, hbr⟩, Int.toNat_natCast, Int.toNat_natCast]
        have hq3 : decide ((b0 : Int) < 2) = false := decide_eq_false (by omega)
        obtain ⟨z1, z2⟩ := liftT_c (w := w) (b := b0) (m := m0) (by omega) (by omega) (by omega)
        have hmost := lif_most (b := b0) (by omega) m0 m0 (Nat.le_refl _)
        have hmt := most_top (lif b0 m0)
        (repeat (first | with_reducible refine W.seq ?_ | with_reducible refine Ops.nil ?_ | with_reducible refine W.region ?_ | refine z_p (kk := ?_) | refine z_y (kk := ?_) | refine z_h (kk := ?_)))
        refine W.condF rfl (by first | (simp; done) | (simp; omega)) ?_
        (repeat (first | with_reducible refine W.seq ?_ | with_reducible refine W.region ?_ | refine z_p (kk := ?_)))
        refine Ops.call rfl rfl rfl rfl rfl (rBumped_c m0 (b := b0) (by omega) (by omega) (by omega)) (fun r w5 hR => ?_)
        obtain ⟨vo, rfl, hM5, hb5⟩ := hR
        by_cases h1 : 1152921504606846976 < bmp b0 m0
        · have hf : bumR (m0 : Int) (b0 : Int) = .error 5 := by rw [hB, if_neg (fun h => by omega)]
          rw [hf] at hX hE
          have hX' : X = (0, []) := hX.symm
          have hE' : eB = 5 := hE.symm
          subst hX' hE'
          have hcc : 1152921504606846976 < cap61 (bmp b0 m0) := by unfold cap61; omega
          (repeat (first | with_reducible refine W.seq ?_ | with_reducible refine Ops.nil ?_ | with_reducible refine W.region ?_ | refine z_p (kk := ?_) | refine z_n (kk := ?_) | refine z_g (kk := ?_)))
          refine W.condT rfl (by first | (simp; done) | (simp; omega)) ?_
          (repeat (first | with_reducible refine W.seq ?_ | with_reducible refine Ops.nil ?_ | with_reducible refine W.region ?_ | refine z_p (kk := ?_) | refine z_y (kk := ?_) | refine z_ev (EV.sne rfl rfl rfl rfl) (kk := ?_)))
          refine W.condF rfl (by first | rfl | assumption | (simp; done) | (simp; omega)) ?_
          (repeat (first | with_reducible refine W.skip ?_))
          exact W.endl ⟨_, ⟨rfl, hb5⟩, (by repeat (first | exact trivial | refine And.intro rfl ?_))⟩
        · have hq4 : decide (((cap61 (bmp b0 m0) : Nat) : Int) > 1152921504606846976) = false := decide_eq_false (by unfold cap61; omega)
          (repeat (first | with_reducible refine W.seq ?_ | with_reducible refine Ops.nil ?_ | with_reducible refine W.region ?_ | refine z_p (kk := ?_) | refine z_y (kk := ?_) | refine z_h (kk := ?_)))
          refine Ops.callS rfl rfl rfl rfl rfl (rSize_c _ (Nat.le_refl _) (by omega) hM5) ?_
          by_cases h2 : 60 < szO (lif b0 m0)
          · have hf : bumR (m0 : Int) (b0 : Int) = .error 5 := by rw [hB, if_neg (fun h => by have := of_decide_eq_false h.2; omega)]
            rw [hf] at hX hE
            have hX' : X = (0, []) := hX.symm
            have hE' : eB = 5 := hE.symm
            subst hX' hE'
            (repeat (first | with_reducible refine Ops.nil ?_ | refine z_p (kk := ?_) | refine z_y (kk := ?_)))
            refine W.condT rfl (by first | (simp; done) | (simp; omega)) ?_
            (repeat (first | with_reducible refine W.seq ?_ | with_reducible refine Ops.nil ?_ | with_reducible refine W.region ?_ | refine z_p (kk := ?_) | refine z_y (kk := ?_) | refine z_ev (EV.sne rfl rfl rfl rfl) (kk := ?_)))
            refine W.condF rfl (by first | rfl | assumption | (simp; done) | (simp; omega)) ?_
            (repeat (first | with_reducible refine W.skip ?_))
            exact W.endl ⟨_, ⟨rfl, hb5⟩, (by repeat (first | exact trivial | refine And.intro rfl ?_))⟩
          · have hf : bumR (m0 : Int) (b0 : Int) = .ok (bmp b0 m0, lif b0 m0) := by rw [hB, if_pos ⟨by omega, decide_eq_false (by omega)⟩]
            rw [hf] at hX hE
            have hX' : X = ((bmp b0 m0 : Int), txO (lif b0 m0)) := hX.symm
            have hE' : eB = 0 := hE.symm
            subst hX' hE'
            have hcc : cap61 (bmp b0 m0) = bmp b0 m0 := by unfold cap61; omega
            have hq5 : (((bmp b0 m0 : Nat) : Int) != ((cap61 (bmp b0 m0) : Nat) : Int)) = false := by rw [hcc]; simp
            have hd : (!decide (txO (lif b0 m0) = txO (lif b0 m0))) = false := by simp
            (repeat (first | with_reducible refine Ops.nil ?_ | refine z_p (kk := ?_) | refine z_y (kk := ?_)))
            refine W.condF rfl (by first | (simp; done) | (simp; omega)) ?_
            (repeat (first | with_reducible refine W.seq ?_ | with_reducible refine W.region ?_ | refine z_p (kk := ?_) | refine z_y (kk := ?_) | refine z_h (kk := ?_)))
            refine Ops.call rfl rfl rfl rfl rfl (refText_c _ (Nat.le_refl _) (by omega) (by omega) hM5) (fun r w6 hR => ?_)
            obtain ⟨rfl, hb6⟩ := hR
            (repeat (first | with_reducible refine Ops.nil ?_ | refine z_p (kk := ?_) | refine z_y (kk := ?_) | refine z_ev (EV.sne rfl rfl rfl rfl) (kk := ?_) | refine z_h (kk := ?_)))
            refine W.condF rfl (by first | rfl | assumption | (simp; done) | (simp; omega)) ?_
            (repeat (first | with_reducible refine W.skip ?_))
            exact W.endl ⟨_, ⟨rfl, Below.via hb5 hb6⟩, (by repeat (first | exact trivial | refine And.intro rfl ?_))⟩
      · have hB : bumR (m0 : Int) base = .error 2 := by unfold bumR; rw [if_neg (fun h => hbr h.2)]
        rw [hB] at hX hE
        have hX' : X = (0, []) := hX.symm
        have hE' : eB = 2 := hE.symm
        subst hX' hE'
        by_cases h0 : base < 2
        all_goals (
          (repeat (first | with_reducible refine W.seq ?_ | with_reducible refine Ops.nil ?_ | with_reducible refine W.region ?_ | refine z_p (kk := ?_) | refine z_y (kk := ?_) | refine z_n (kk := ?_) | refine z_g (kk := ?_) | refine z_h (kk := ?_)))
          refine W.condT rfl (by first | (simp; done) | (simp; omega)) ?_
          (repeat (first | with_reducible refine W.seq ?_ | with_reducible refine Ops.nil ?_ | with_reducible refine W.region ?_ | refine z_p (kk := ?_) | refine z_y (kk := ?_) | refine z_ev (EV.sne rfl rfl rfl rfl) (kk := ?_)))
          refine W.condF rfl (by first | rfl | assumption | (simp; done) | (simp; omega)) ?_
          (repeat (first | with_reducible refine W.skip ?_))
          exact W.endl ⟨_, ⟨rfl, Below.refl _ _⟩, (by repeat (first | exact trivial | refine And.intro rfl ?_))⟩)
    rintro ρ w5 ⟨rfl, hb45⟩
    have hb05 := Below.via hb04 hb45
    have hb35 := Below.via hb34 hb45
    clear hb44
    by_cases hst : 0 ≤ steps ∧ steps ≤ 50
    · obtain ⟨s0, rfl⟩ : ∃ s0 : Nat, steps = (s0 : Int) := ⟨steps.toNat, by omega⟩
      have hG : goodR (m0 : Int) (s0 : Int) = match goodL s0 2 m0 with | none => .error 5 | some q => .ok q := by
        unfold goodR
        rw [if_pos ⟨hok, hst⟩, Int.toNat_natCast, Int.toNat_natCast]
        all_goals (cases goodL s0 2 m0 <;> rfl)
      have hq3 : decide ((s0 : Int) < 0) = false := decide_eq_false (by omega)
      (repeat (first | with_reducible refine W.seq ?_ | with_reducible refine Ops.nil ?_ | with_reducible refine W.region ?_ | refine z_p (kk := ?_) | refine z_y (kk := ?_)))
      refine W.condF rfl (by first | (simp; done) | (simp; omega)) ?_
      (repeat (first | with_reducible refine W.seq ?_ | with_reducible refine W.region ?_ | refine z_p (kk := ?_) | with_reducible refine W.skip ?_))
      refine Ops.call rfl rfl rfl rfl rfl (rGood_c (m0 := m0) (n := s0) (by omega) (by omega)) (fun r w6 hR => ?_)
      obtain ⟨hor, hb56⟩ := hR
      have hb06 := Below.via hb05 hb56
      rcases hor with ⟨hno, u1, u2, rfl⟩ | ⟨q, u1, u2, hs, hq, rfl, hI, hRR, hLL⟩
      · rw [hno] at hG
        simp only at hG
        rw [hG] at hGo hGe
        have hX' : GX = ([], []) := hGo.symm
        have hE' : eG = 5 := hGe.symm
        subst hX' hE'
        (repeat (first | with_reducible refine W.seq ?_ | with_reducible refine Ops.nil ?_ | with_reducible refine W.region ?_ | refine z_p (kk := ?_)))
        refine W.condT rfl (by first | rfl | assumption | (simp only [bnf] <;> omega) | (simp only [*, bnf]; done) | fail) ?_
        (repeat (first | with_reducible refine W.seq ?_ | with_reducible refine W.region ?_ | refine z_p (kk := ?_) | refine z_y (kk := ?_) | refine z_l (kk := ?_)))
        refine Ops.call rfl rfl rfl rfl rfl (awake_c (hT.below hb06)) (fun r wz hR => ?_)
        obtain ⟨rfl, hbz⟩ := hR
        (repeat (first | with_reducible refine Ops.nil ?_ | refine z_p (kk := ?_)))
        exact W.fret rfl ⟨rfl, Below.via hb06 hbz⟩
      · rw [hq] at hG
        simp only at hG
        rw [hG] at hGo hGe
        have hX' : GX = q := hGo.symm
        have hE' : eG = 0 := hGe.symm
        subst hX' hE'
        obtain ⟨ns, os⟩ := GX
        have hS := goodL_spec _ _ _ hq
        have q2 := hS.le
        have q3 := hS.lo
        have hz : ∀ i, i < os.length → szO (os.getD i .nil) ≤ 1000000 ∧ mostO (os.getD i .nil) ≤ 9999 := fun i hi => by
          obtain ⟨e1, e2⟩ := hS.od i (by omega)
          rw [e1]
          have e3 := of_decide_eq_false e2
          have e4 := lif_most (b := 2 + i) (by omega) (ns.getD i 0) _ (Nat.le_refl _)
          omega
        (repeat (first | with_reducible refine W.seq ?_ | with_reducible refine Ops.nil ?_ | with_reducible refine W.region ?_ | refine z_p (kk := ?_)))
        refine W.condF rfl (by first | rfl | assumption | (simp only [bnf] <;> omega) | (simp only [*, bnf]; done) | fail) ?_
        (repeat (first | with_reducible refine W.seq ?_ | with_reducible refine W.region ?_ | refine z_p (kk := ?_) | with_reducible refine W.skip ?_))
        refine Ops.call rfl rfl rfl rfl rfl (ints_c (Sl.below hS1 (Below.via hb35 hb56)) hI) (fun r w7 hR => ?_)
        obtain ⟨rfl, hb67⟩ := hR
        have hb07 := Below.via hb06 hb67
        have hdi : decide (intL ns = intL ns) = true := by simp
        (repeat (first | refine z_p (kk := ?_) | refine z_y (kk := ?_) | refine z_h (kk := ?_)))
        refine Ops.call rfl rfl rfl rfl rfl (told_c (hRR.below hb67) (hLL.below hb67) hz (show os.length ≤ 1000000 by omega)) (fun r w8 hR => ?_)
        obtain ⟨hTo, hb78⟩ := hR
        have hb08 := Below.via hb07 hb78
        (repeat (first | refine z_y (kk := ?_)))
        refine Ops.call rfl rfl rfl rfl rfl (texts_c (Sl.below hS2 (Below.via (Below.via hb35 hb56) (Below.via hb67 hb78))) hTo) (fun r w9 hR => ?_)
        obtain ⟨rfl, hb89⟩ := hR
        have hb09 := Below.via hb08 hb89
        have hdt : decide (os.map txO = os.map txO) = true := by simp
        (repeat (first | refine z_p (kk := ?_) | refine z_y (kk := ?_) | refine z_h (kk := ?_)))
        refine Ops.call rfl rfl rfl rfl rfl (awake_c (hT.below hb09)) (fun r wz hR => ?_)
        obtain ⟨rfl, hbz⟩ := hR
        (repeat (first | with_reducible refine Ops.nil ?_ | refine z_p (kk := ?_)))
        exact W.fret rfl ⟨rfl, Below.via hb09 hbz⟩
    · have hG : goodR (m0 : Int) steps = .error 2 := by unfold goodR; rw [if_neg (fun h => hst h.2)]
      rw [hG] at hGo hGe
      have hX' : GX = ([], []) := hGo.symm
      have hE' : eG = 2 := hGe.symm
      subst hX' hE'
      by_cases h0 : steps < 0
      all_goals (
        (repeat (first | with_reducible refine W.seq ?_ | with_reducible refine Ops.nil ?_ | with_reducible refine W.region ?_ | refine z_p (kk := ?_) | refine z_y (kk := ?_) | refine z_n (kk := ?_) | refine z_g (kk := ?_) | refine z_h (kk := ?_)))
        refine W.condT rfl (by first | (simp; done) | (simp; omega)) ?_
        (repeat (first | with_reducible refine W.seq ?_ | with_reducible refine W.region ?_ | refine z_p (kk := ?_) | refine z_y (kk := ?_) | refine z_l (kk := ?_)))
        refine Ops.call rfl rfl rfl rfl rfl (awake_c (hT.below hb05)) (fun r wz hR => ?_)
        obtain ⟨rfl, hbz⟩ := hR
        (repeat (first | with_reducible refine Ops.nil ?_ | refine z_p (kk := ?_)))
        exact W.fret rfl ⟨rfl, Below.via hb05 hbz⟩)
  · have hB : bumR m base = .error 2 := by unfold bumR; rw [if_neg (fun h => hok h.1)]
    rw [hB] at hX hE
    have hX' : X = (0, []) := hX.symm
    have hE' : eB = 2 := hE.symm
    subst hX' hE'
    have hG : goodR m steps = .error 2 := by unfold goodR; rw [if_neg (fun h => hok h.1)]
    rw [hG] at hGo hGe
    have hY' : GX = ([], []) := hGo.symm
    have hZ' : eG = 2 := hGe.symm
    subst hY' hZ'
    by_cases h0 : 0 ≤ m
    all_goals (
      (repeat (first | with_reducible refine W.seq ?_ | with_reducible refine Ops.nil ?_ | with_reducible refine W.region ?_ | refine z_p (kk := ?_) | refine z_y (kk := ?_) | refine z_n (kk := ?_) | refine z_g (kk := ?_) | refine z_h (kk := ?_)))
      refine W.condT rfl (by first | (simp; done) | (simp; omega)) ?_
      (repeat (first | with_reducible refine W.seq ?_ | with_reducible refine Ops.nil ?_ | with_reducible refine W.region ?_ | refine z_p (kk := ?_) | refine z_y (kk := ?_) | refine z_ev (EV.sne rfl rfl rfl rfl) (kk := ?_)))
      refine W.condF rfl (by first | rfl | assumption | (simp; done) | (simp; omega)) ?_
      (repeat (first | with_reducible refine W.seq ?_ | with_reducible refine Ops.nil ?_ | with_reducible refine W.region ?_ | refine z_p (kk := ?_) | refine z_n (kk := ?_) | with_reducible refine W.skip ?_ | refine z_g (kk := ?_)))
      refine W.condT rfl (by first | (simp; done) | (simp; omega)) ?_
      (repeat (first | with_reducible refine W.seq ?_ | with_reducible refine W.region ?_ | refine z_p (kk := ?_) | refine z_y (kk := ?_) | refine z_l (kk := ?_)))
      refine Ops.call rfl rfl rfl rfl rfl (awake_c (hT.below hb04)) (fun r wz hR => ?_)
      obtain ⟨rfl, hbz⟩ := hR
      (repeat (first | with_reducible refine Ops.nil ?_ | refine z_p (kk := ?_)))
      exact W.fret rfl ⟨rfl, Below.via hb04 hbz⟩)
end Go.Proofs.YtcmjlmnfdncajaaGreatDoor
