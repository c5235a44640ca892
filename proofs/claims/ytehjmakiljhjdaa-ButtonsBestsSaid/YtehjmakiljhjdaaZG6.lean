/- A part of the walk: what this seat's statements share. -/
import Derived.Test.YtehjmakiljhjdaaZG5
import Derived.Test.YtehjmakiljhjdaaZG4
import Derived.Test.YtehjmakiljhjdaaZG1
set_option linter.unusedVariables false
set_option linter.unusedSimpArgs false
set_option linter.unusedSectionVars false
namespace Go.Proofs.Ytehjmakiljhjdaa
open Go Go.RowKit Go.Proofs.Ytehjmakiljhjdaa.VW
attribute [local irreducible] W Ops OrdA VW.Ord OrdX
/-- What Narrow finds. -/
structure NarS (c : List (List Int)) (a : List Int) (x : Int) (b : List Int) : Prop where
  mem : x ∈ c.flatten
  fit : fitsS c x c.length [] = some a
  least : ∀ y, y ∈ c.flatten → y < x → fitsS c y c.length [] = none
  blk : BlkS c (x - 1) b
theorem pow7n {n : Nat} (h : n ≤ 7) : 2 ^ n ≤ 128 := by
  calc 2 ^ n ≤ 2 ^ 7 := Nat.pow_le_pow_right (by omega) h
    _ = 128 := rfl
theorem flat_bd {c : List (List Int)} (hC : Cst c) {y : Int} (h : y ∈ c.flatten) : -1000 ≤ y ∧ y ≤ 1000 := by
  obtain ⟨r, hr, hy⟩ := List.mem_flatten.1 h
  obtain ⟨i, hi, e⟩ := mem_getDR hr
  obtain ⟨j, hj, e2⟩ := mem_getDI hy
  have hl := hC.len i hi
  rw [e] at hl
  have := hC.bd i j hi (by omega)
  rw [e, e2] at this
  exact this
set_option maxHeartbeats 4000000 in
theorem Narrow_c {w : World} {cv : Value} {c : List (List Int)} (hM : RowsM w cv c) : Calls Try.prog 18 #[cv] w (Ret fun r w' => Below w.heap.size w w' ∧ (costsB c = false → r = .tuple #[.slice none 0 0, .int .i64 0, .slice none 0 0, .int .i64 2]) ∧ (costsB c = true → ∃ av x bv a b, r = .tuple #[av, .int .i64 x, bv, .int .i64 0] ∧ SlI w' av a ∧ SlI w' bv b ∧ NarS c a x b)) := by
  obtain ⟨Ac, cc, rfl⟩ := hM.sl
  refine calls_W (vs := [_]) Try.func18 rfl (by kernel_rfl) rfl ?_
  (repeat (first | with_reducible refine W.seq ?_ | with_reducible refine Ops.nil ?_ | with_reducible refine W.region ?_ | refine z_p (kk := ?_)))
  refine Ops.call rfl rfl rfl rfl rfl (areCosts_c hM) (fun r w1 hR => ?_)
  obtain ⟨rfl, hb1⟩ := hR
  cases hcB : costsB c with
  | false =>
    (repeat (first | with_reducible refine Ops.nil ?_ | refine z_p (kk := ?_)))
    refine W.condT rfl (by first | rfl | assumption | (simp only [bnf] <;> omega) | (simp only [*, bnf]; done) | fail) ?_
    (repeat (first | with_reducible refine W.seq ?_ | with_reducible refine Ops.nil ?_ | with_reducible refine W.region ?_ | refine z_p (kk := ?_)))
    exact W.fret rfl ⟨hb1, fun _ => rfl, fun h => by cases h⟩
  | true =>
    have hC := costs_iff.1 hcB
    have hn7 := hC.n7
    have hn1 := hC.n1
    have hp7 := pow7n hn7
    have hfl : c.flatten.length = c.length * c.length := by have := flat_len hC c.length (Nat.le_refl _); rwa [List.take_length] at this
    have hfl49 : c.length * c.length ≤ 49 := Nat.le_trans (Nat.mul_le_mul hn7 hn7) (by decide)
    have hfpos : 0 < c.length * c.length := Nat.mul_pos (by omega) (by omega)
    (repeat (first | with_reducible refine Ops.nil ?_ | refine z_p (kk := ?_)))
    refine W.condF rfl (by first | rfl | assumption | (simp only [bnf] <;> omega) | (simp only [*, bnf]; done) | fail) ?_
    (repeat (first | with_reducible refine W.seq ?_ | with_reducible refine W.region ?_ | refine z_p (kk := ?_) | with_reducible refine W.skip ?_))
    refine Ops.call rfl rfl rfl rfl rfl (concat_c (hM.below hb1) hC) (fun v w2 hO2 => ?_)
    (repeat (first | with_reducible refine W.seq ?_ | with_reducible refine Ops.nil ?_ | with_reducible refine W.region ?_ | refine z_p (kk := ?_)))
    refine Ops.call rfl rfl rfl rfl rfl (sort_c hO2.own (by omega) (by omega)) (fun r w3 hR => ?_)
    obtain ⟨rfl, hown3, hk3⟩ := hR
    generalize hws : (c.flatten.mergeSort fun x y => decide (x ≤ y)) = ws at hown3
    have hwl : ws.length = c.flatten.length := by rw [← hws, List.length_mergeSort]
    have hwm : ∀ y, y ∈ ws ↔ y ∈ c.flatten := fun y => by rw [← hws, List.mem_mergeSort]
    have hsorted : ws.Pairwise (fun a b => a ≤ b) := by
      have := List.pairwise_mergeSort (le := fun x y : Int => decide (x ≤ y)) (fun a b c h1 h2 => by simp at *; omega) (fun a b => by simp; omega) c.flatten
      rw [hws] at this
      exact this.imp (fun h => by simpa using h)
    have hb3 : Below w.heap.size w w3 := Below.put (Below.via hb1 hO2.bel) hk3 (fun i e => by have := hO2.ge i e; have := hb1.size; omega)
    rw [← hwl] at hown3
    have hsl3 : SlI w3 v ws := own_sl hown3
    have hvs : ∃ A k, v = .slice A ws.length k := Sl.shape hsl3
    obtain ⟨A, k, rfl⟩ := hvs
    (repeat (first | with_reducible refine W.seq ?_ | with_reducible refine Ops.nil ?_ | with_reducible refine W.region ?_ | refine z_p (kk := ?_) | with_reducible refine W.block ?_ | refine z_l (kk := ?_)))
    refine W.loop (fun m ρ w4 => ∃ (q : Nat), m = ws.length - q ∧ q ≤ ws.length ∧ ρ = [(0, .slice Ac c.length cc), (21, .slice A ws.length k), (22, .int .i64 ws.length), (23, .int .i64 q)] ∧ Below w3.heap.size w3 w4 ∧ ∀ p, p < q → fitsS c (ws.getD p 0) c.length [] = none)
      ⟨_, _, ⟨0, rfl, Nat.zero_le _, rfl, Below.refl _ _, fun p hp => by omega⟩, (by repeat (first | exact trivial | refine And.intro rfl ?_))⟩ ?_
    rintro m ρ w4 ⟨q, rfl, hq, rfl, hb4, hno⟩
    have hb04 := Below.via hb3 hb4
    (repeat (first | with_reducible refine W.seq ?_ | with_reducible refine Ops.nil ?_ | with_reducible refine W.region ?_ | refine z_p (kk := ?_)))
    (first | refine W.condD rfl (fun hc => ?_) (fun hc => ?_) | refine W.condE rfl (fun hc => ?_) (fun hc => ?_) | refine W.condN rfl (fun hc => ?_) (fun hc => ?_) | refine W.cond rfl (fun hc => ?_) (fun hc => ?_))
    · have hql : q < ws.length := by omega
      have hmem : ws.getD q 0 ∈ c.flatten := (hwm _).1 (getD_memI hql)
      have hbd := flat_bd hC hmem
      (repeat (first | with_reducible refine W.seq ?_ | with_reducible refine Ops.nil ?_ | with_reducible refine W.region ?_ | refine z_p (kk := ?_) | with_reducible refine W.skip ?_ | with_reducible refine W.block ?_ | refine z_I (kk := fun _ => ?_)))
      refine Ops.call rfl rfl rfl rfl rfl (fits_c hM hC c.length [] w4 none 0 (by simp) (Nat.le_refl _) hb04 (Sl.nil _ _ _ _ _)) (fun r w5 hR => ?_)
      obtain ⟨hb5, hR⟩ := hR
      have hb35 := Below.via hb4 hb5
      have hb05 := Below.via hb04 hb5
      cases hf : fitsS c (ws.getD q 0) c.length [] with
      | none =>
        rw [hf] at hR
        have hr : r = .tuple #[.slice none 0 0, .bool false] := hR
        subst hr
        (repeat (first | with_reducible refine W.seq ?_ | with_reducible refine Ops.nil ?_ | with_reducible refine W.region ?_ | refine z_p (kk := ?_)))
        refine W.condT rfl (by first | rfl | assumption | (simp only [bnf] <;> omega) | (simp only [*, bnf]; done) | fail) ?_
        (repeat (first | with_reducible refine Ops.nil ?_ | with_reducible refine W.region ?_ | refine z_p (kk := ?_) | refine z_a (kk := ?_) | refine W.exit rfl ?_))
        refine W.endl ⟨_, _, ⟨⟨q + 1, rfl, by omega, rfl, hb35, fun p hp => ?_⟩, by omega⟩, (by repeat (first | exact trivial | refine And.intro rfl ?_))⟩
        by_cases e : p = q
        · rw [e]; exact hf
        · exact hno p (by omega)
      | some a =>
        rw [hf] at hR
        obtain ⟨av, rfl, hav⟩ := hR
        have hleast : ∀ y, y ∈ c.flatten → y < ws.getD q 0 → fitsS c y c.length [] = none := fun y hy hlt => by
          obtain ⟨p, hp, e⟩ := mem_getDI ((hwm y).2 hy)
          rw [← e]
          refine hno p ?_
          rcases Nat.lt_or_ge p q with h | h
          · exact h
          · exfalso
            rcases Nat.eq_or_lt_of_le h with h | h
            · subst h; omega
            · have := List.pairwise_iff_getElem.1 hsorted q p hql hp h
              have e1 : ws[q] = ws.getD q 0 := by simp [List.getD_eq_getElem?_getD, hql]
              have e2 : ws[p] = ws.getD p 0 := by simp [List.getD_eq_getElem?_getD, hp]
              rw [e1, e2] at this
              omega
        obtain ⟨s0, hs1, hs2, hsB⟩ := block_ex (fun a => none_below hC hleast a)
        (repeat (first | with_reducible refine W.seq ?_ | with_reducible refine Ops.nil ?_ | with_reducible refine W.region ?_ | refine z_p (kk := ?_)))
        refine W.condF rfl (by first | rfl | assumption | (simp only [bnf] <;> omega) | (simp only [*, bnf]; done) | fail) ?_
        (repeat (first | with_reducible refine W.seq ?_ | with_reducible refine Ops.nil ?_ | with_reducible refine W.region ?_ | refine z_p (kk := ?_) | with_reducible refine W.skip ?_ | with_reducible refine W.block ?_))
        refine W.loop (fun m ρ w6 => ∃ (s : Nat), m = s0 - s ∧ 1 ≤ s ∧ s ≤ s0 ∧ ρ = [(0, .slice Ac c.length cc), (8, .int .i64 (ws.getD q 0)), (9, av), (11, .int .i64 s)] ∧ Below w5.heap.size w5 w6)
          ⟨_, _, ⟨1, rfl, Nat.le_refl _, hs1, rfl, Below.refl _ _⟩, (by repeat (first | exact trivial | refine And.intro rfl ?_))⟩ ?_
        rintro m ρ w6 ⟨s, rfl, hsge, hsle, rfl, hb6⟩
        (repeat (first | with_reducible refine W.seq ?_ | with_reducible refine Ops.nil ?_ | with_reducible refine W.region ?_ | refine z_p (kk := ?_) | with_reducible refine W.block ?_ | refine z_l (kk := ?_)))
        refine W.loop (fun m ρ w7 => ∃ (i : Nat) (ov : Value), m = c.length - i ∧ i ≤ c.length ∧ ρ = [(0, .slice Ac c.length cc), (8, .int .i64 (ws.getD q 0)), (9, av), (11, .int .i64 s), (12, ov), (38, .int .i64 c.length), (39, .int .i64 i)] ∧ OI 3 (Value.int .i64) w5 w7 ov (setL s i))
          ⟨_, _, ⟨0, _, rfl, Nat.zero_le _, rfl, OI.nil hb6⟩, (by repeat (first | exact trivial | refine And.intro rfl ?_))⟩ ?_
        rintro m ρ w7 ⟨i, ov, rfl, hi, rfl, hO7⟩
        have hb7 := hO7.bel
        have hdiv : s / 2 ^ i ≤ s := Nat.div_le_self _ _
        (repeat (first | with_reducible refine W.seq ?_ | with_reducible refine Ops.nil ?_ | with_reducible refine W.region ?_ | refine z_p (kk := ?_)))
        (first | refine W.condD rfl (fun hc => ?_) (fun hc => ?_) | refine W.condE rfl (fun hc => ?_) (fun hc => ?_) | refine W.condN rfl (fun hc => ?_) (fun hc => ?_) | refine W.cond rfl (fun hc => ?_) (fun hc => ?_))
        · have hil : i < c.length := by omega
          (repeat (first | with_reducible refine W.seq ?_ | with_reducible refine Ops.nil ?_ | with_reducible refine W.region ?_ | refine z_p (kk := ?_) | with_reducible refine W.skip ?_ | with_reducible refine W.block ?_ | refine z_Q (kk := ?_) | refine z_1 (kk := ?_)))
          by_cases hbit : s.testBit i = true
          · refine W.condT rfl (by rw [bit_iff]; exact hbit) ?_
            have hll : (setL s i).length ≤ i := by rw [(setL_spec (s := s) i).1]; exact Nat.le_trans (List.length_filter_le _ _) (by simp)
            (repeat (first | with_reducible refine W.region ?_ | refine z_p (kk := ?_)))
            refine Ops.pushO (enc := Value.int .i64) (u := (i : Int)) rfl rfl rfl rfl rfl rfl rfl rfl rfl rfl rfl rfl (fun _ => rfl) rfl hO7 (by omega) (fun lv' p w8 hO8 k8 hn8 => ?_)
            (repeat (first | with_reducible refine Ops.nil ?_ | with_reducible refine W.region ?_ | refine z_p (kk := ?_) | refine z_a (kk := ?_) | with_reducible refine W.endb ?_))
            refine W.endl ⟨_, _, ⟨⟨i + 1, lv', rfl, by omega, rfl, ?_⟩, by omega⟩, (by repeat (first | exact trivial | refine And.intro rfl ?_))⟩
            rw [setL, if_pos hbit]
            exact hO8
          · refine W.condF rfl (by rw [bit_iff]; simpa using hbit) ?_
            (repeat (first | with_reducible refine Ops.nil ?_ | with_reducible refine W.region ?_ | refine z_p (kk := ?_) | refine z_a (kk := ?_) | with_reducible refine W.skip ?_ | with_reducible refine W.endb ?_))
            refine W.endl ⟨_, _, ⟨⟨i + 1, ov, rfl, by omega, rfl, ?_⟩, by omega⟩, (by repeat (first | exact trivial | refine And.intro rfl ?_))⟩
            rw [setL, if_neg hbit]
            exact hO7
        · have hil : i = c.length := by omega
          subst hil
          have hb57 := hO7.bel
          have hb07 := Below.via hb05 hb57
          (repeat (first | with_reducible refine W.seq ?_ | with_reducible refine W.region ?_ | refine z_p (kk := ?_) | refine z_a (kk := ?_) | refine W.exit rfl ?_))
          refine Ops.call rfl rfl rfl rfl rfl (isBlock_c (hM.below hb07) hC hO7.sl) (fun r w8 hR => ?_)
          obtain ⟨rfl, hb8⟩ := hR
          by_cases hB : BlkS c (ws.getD q 0 - 1) (setL s c.length)
          · rw [decide_eq_true hB]
            (repeat (first | with_reducible refine Ops.nil ?_))
            refine W.condT rfl (by first | rfl | assumption | (simp only [bnf] <;> omega) | (simp only [*, bnf]; done) | fail) ?_
            (repeat (first | with_reducible refine W.seq ?_ | with_reducible refine Ops.nil ?_ | with_reducible refine W.region ?_ | refine z_p (kk := ?_)))
            refine W.fret rfl ⟨Below.via hb07 hb8, fun h => (by cases h), fun _ => ⟨av, _, ov, a, _, rfl, Sl.below hav (Below.via hb57 hb8), Sl.below hO7.sl hb8, hmem, hf, hleast, hB⟩⟩
          · rw [decide_eq_false hB]
            have hne : s ≠ s0 := fun e => hB (e ▸ hsB)
            (repeat (first | with_reducible refine Ops.nil ?_))
            refine W.condF rfl (by first | rfl | assumption | (simp only [bnf] <;> omega) | (simp only [*, bnf]; done) | fail) ?_
            (repeat (first | with_reducible refine Ops.nil ?_ | with_reducible refine W.region ?_ | refine z_p (kk := ?_) | refine z_a (kk := ?_) | with_reducible refine W.skip ?_ | with_reducible refine W.endb ?_))
            exact W.endl ⟨_, _, ⟨⟨s + 1, rfl, by omega, by omega, rfl, Below.via hb57 hb8⟩, by omega⟩, (by repeat (first | exact trivial | refine And.intro rfl ?_))⟩
    · exfalso
      obtain ⟨y, hy, hne⟩ := some_fits hC
      obtain ⟨p, hp, e⟩ := mem_getDI ((hwm y).2 hy)
      exact hne (by rw [← e]; exact hno p (by omega))
end Go.Proofs.Ytehjmakiljhjdaa
namespace Go.Proofs.Ytehjmakiljhjdaa
open Go Go.RowKit Go.Proofs.Ytehjmakiljhjdaa.VW
attribute [local irreducible] W Ops OrdA VW.Ord OrdX
theorem tables_c {w : World} {a b : Value} {x y : List (List Int)} (ha : RowsM w a x) (hb : RowsM w b y) :
    Calls Try.prog 33 #[a, b] w (Ret fun r w' => r = .bool (decide (x = y)) ∧ Below w.heap.size w w') := by
  have hl1 := ha.1
  have hl2 := hb.1
  obtain ⟨A, c, rfl⟩ := ha.sl
  obtain ⟨B, d, rfl⟩ := hb.sl
  refine calls_W (vs := [_, _]) Try.func33 rfl (by kernel_rfl) rfl ?_
  by_cases hl : x.length = y.length
  · (repeat (first | with_reducible refine W.seq ?_ | with_reducible refine Ops.nil ?_ | with_reducible refine W.region ?_ | refine z_p (kk := ?_) | refine z_l (kk := ?_)))
    refine W.condF rfl (by first | rfl | assumption | (simp only [bnf] <;> omega) | (simp only [*, bnf]; done) | fail) ?_
    (repeat (first | with_reducible refine W.seq ?_ | with_reducible refine Ops.nil ?_ | with_reducible refine W.region ?_ | refine z_p (kk := ?_) | with_reducible refine W.skip ?_ | with_reducible refine W.block ?_))
    refine W.loop (fun m ρ w1 => ∃ (i : Nat), m = x.length - i ∧ i ≤ x.length ∧ ρ = [(0, .slice A x.length c), (1, .slice B y.length d), (5, .int .i64 i)] ∧ Below w.heap.size w w1 ∧ ∀ j : Nat, j < i → x.getD j [] = y.getD j [])
      ⟨_, _, ⟨0, rfl, Nat.zero_le _, rfl, Below.refl _ _, fun j hj => by omega⟩, (by repeat (first | exact trivial | refine And.intro rfl ?_))⟩ ?_
    rintro m ρ w1 ⟨i, rfl, hi, rfl, hb1, heq⟩
    (repeat (first | with_reducible refine W.seq ?_ | with_reducible refine Ops.nil ?_ | with_reducible refine W.region ?_ | refine z_p (kk := ?_) | refine z_l (kk := ?_)))
    (first | refine W.condD rfl (fun hc => ?_) (fun hc => ?_) | refine W.condE rfl (fun hc => ?_) (fun hc => ?_) | refine W.condN rfl (fun hc => ?_) (fun hc => ?_) | refine W.cond rfl (fun hc => ?_) (fun hc => ?_))
    · have hil : i < x.length := by omega
      (repeat (first | with_reducible refine W.seq ?_ | with_reducible refine W.skip ?_ | with_reducible refine W.block ?_))
      refine W.ordA 99 [(0, 1), (1, 1), (2, 1), (3, 2), (4, 1), (5, 1), (6, 1), (7, 2), (8, 2), (9, 1)] rfl (by kernel_rfl) rfl (by kernel_rfl) (fun _ _ _ h => h) ?_
      (repeat (first | refine x_p (kk := ?_) | refine x_r (kk := fun _ _ _ _ => ?_)))
      rename_i h1 _ _ _ h2
      refine OrdA.call rfl rfl rfl rfl rfl rfl rfl (v := .bool (decide (row x i = row y i))) (fun w' hw' => (ints_c (Sl.below h1 (Below.via hb1 hw')) (Sl.below h2 (Below.via hb1 hw'))).mono fun e w'' ⟨v, he, hv, hb⟩ => ⟨v, he, hv, Below.via hw' hb⟩) ?_
      (repeat (first | refine x_p (kk := ?_)))
      refine OrdA.nil (fun w2 hb2 => ?_)
      have hb02 := Below.via hb1 hb2
      have hrow : ∀ c : List (List Int), row c (i : Int) = c.getD i [] := fun c => by simp [row]
      by_cases e : x.getD i [] = y.getD i []
      · have e' : row x i = row y i := by rw [hrow, hrow, e]
        rw [decide_eq_true e']
        skip
        refine W.condF rfl (by first | rfl | assumption | (simp only [bnf] <;> omega) | (simp only [*, bnf]; done) | fail) ?_
        (repeat (first | with_reducible refine Ops.nil ?_ | with_reducible refine W.region ?_ | refine z_p (kk := ?_) | refine z_a (kk := ?_) | with_reducible refine W.skip ?_ | with_reducible refine W.endb ?_))
        exact W.endl ⟨_, _, ⟨⟨i + 1, rfl, by omega, rfl, hb02, fun j hj => by
          by_cases e2 : j = i
          · rw [e2]; exact e
          · exact heq j (by omega)⟩, by omega⟩, (by repeat (first | exact trivial | refine And.intro rfl ?_))⟩
      · have e' : ¬ row x i = row y i := by rw [hrow, hrow]; exact e
        rw [decide_eq_false e']
        skip
        refine W.condT rfl (by first | rfl | assumption | (simp only [bnf] <;> omega) | (simp only [*, bnf]; done) | fail) ?_
        (repeat (first | with_reducible refine W.seq ?_ | with_reducible refine Ops.nil ?_ | with_reducible refine W.region ?_ | refine z_p (kk := ?_)))
        exact W.fret rfl ⟨by rw [decide_eq_false (fun h => e (by rw [h]))]; rfl, hb02⟩
    · have hil : i = x.length := by omega
      (repeat (first | with_reducible refine W.seq ?_ | with_reducible refine Ops.nil ?_ | with_reducible refine W.region ?_ | refine z_p (kk := ?_) | refine W.exit rfl ?_))
      refine W.fret rfl ⟨?_, hb1⟩
      have : x = y := List.ext_getElem hl fun j h1 h2 => by
        have := heq j (by omega)
        simpa [List.getD_eq_getElem?_getD, h1, h2] using this
      rw [decide_eq_true this]; rfl
  · have hl' : (x.length : Int) ≠ y.length := by omega
    (repeat (first | with_reducible refine W.seq ?_ | with_reducible refine Ops.nil ?_ | with_reducible refine W.region ?_ | refine z_p (kk := ?_) | refine z_l (kk := ?_)))
    refine W.condT rfl (by first | rfl | assumption | (simp only [bnf] <;> omega) | (simp only [*, bnf]; done) | fail) ?_
    (repeat (first | with_reducible refine W.seq ?_ | with_reducible refine Ops.nil ?_ | with_reducible refine W.region ?_ | refine z_p (kk := ?_)))
    exact W.fret rfl ⟨by rw [decide_eq_false (fun h => hl (by rw [h]))]; rfl, Below.refl _ _⟩
theorem list_c {w : World} {v : Value} {xs : List Int} (h : Arg w v xs) : Calls Try.prog 17 #[v] w (Ret fun r w' => OI 3 (Value.int .i64) w w' r (xs.take 8)) := by
  obtain ⟨hs, A, c, rfl, hc⟩ := h
  have hxl := Sl.len hs
  have hmin : min (xs.length : Int) 8 = ((min xs.length 8 : Nat) : Int) := by omega
  have htk : xs.take (min xs.length 8) = xs.take 8 := by
    rcases Nat.le_total xs.length 8 with h | h
    · rw [Nat.min_eq_left h, List.take_of_length_le (Nat.le_refl _), List.take_of_length_le h]
    · rw [Nat.min_eq_right h]
  refine calls_W (vs := [_]) Try.func17 rfl (by kernel_rfl) rfl ?_
  (repeat (first | with_reducible refine W.seq ?_ | with_reducible refine Ops.nil ?_ | with_reducible refine W.region ?_ | refine z_p (kk := ?_) | refine z_l (kk := ?_) | refine z_m (kk := ?_)))
  rw [hmin]
  refine Ops.slH rfl rfl rfl rfl rfl rfl rfl (by omega) (by omega) ?_
  rw [Int.toNat_natCast]
  refine Ops.appO (enc := Value.int .i64) (w0 := w) 0 rfl rfl rfl rfl rfl rfl rfl rfl rfl rfl (OI.nil (Below.refl _ _)) (sl_take hs (min xs.length 8) (by omega)) (Below.refl _ _) (fun _ => rfl) (by simp; omega) (fun v' w' hO _ _ => ?_)
  rw [htk, List.nil_append] at hO
  (repeat (first | with_reducible refine Ops.nil ?_ | refine z_p (kk := ?_)))
  exact W.fret rfl hO
def tab (c : List (List Int)) : List (List Int) := (c.take 8).map fun x => x.take 8
theorem tab_succ {c : List (List Int)} {i : Nat} (h : i < c.length) : (c.take (i + 1)).map (fun x : List Int => x.take 8) = (c.take i).map (fun x : List Int => x.take 8) ++ [(row c i).take 8] := by
  rw [List.take_succ_eq_append_getElem h, List.map_append]
  simp [row, List.getD_eq_getElem?_getD, h]
theorem table_c {w : World} {v : Value} {c : List (List Int)} (h : ArgR w v c) : Calls Try.prog 16 #[v] w (Ret fun r w' => ∃ cvs, RO 23 w w' r cvs (tab c)) := by
  have hll := h.1.1
  obtain ⟨At, ct, rfl⟩ := h.1.sl
  refine calls_W (vs := [_]) Try.func16 rfl (by kernel_rfl) rfl ?_
  (repeat (first | with_reducible refine W.seq ?_ | with_reducible refine Ops.nil ?_ | with_reducible refine W.region ?_ | refine z_p (kk := ?_) | with_reducible refine W.block ?_))
  refine W.loop (fun m ρ w3 => ∃ (i : Nat) (ov : Value) (cvs : List Value), m = c.length - i ∧ i ≤ c.length ∧ i ≤ 8 ∧ ρ = [(0, .slice At c.length ct), (3, ov), (4, .int .i64 i)] ∧ RO 23 w w3 ov cvs ((c.take i).map fun x => x.take 8))
    ⟨_, _, ⟨0, _, _, rfl, Nat.zero_le _, Nat.zero_le _, rfl, RO.nil (Below.refl _ _)⟩, (by repeat (first | exact trivial | refine And.intro rfl ?_))⟩ ?_
  rintro m ρ w3 ⟨i, ov, cvs, rfl, hi, hi2, rfl, hO⟩
  have hb3 := hO.o.bel
  by_cases hgo : i < c.length ∧ i ≤ 7
  · obtain ⟨g1, g2⟩ := hgo
    have hcl : cvs.length = i := by have := hO.len; simp at this; omega
    (repeat (first | with_reducible refine W.seq ?_ | with_reducible refine Ops.nil ?_ | with_reducible refine W.region ?_ | refine z_p (kk := ?_) | refine z_y (kk := ?_) | refine z_l (kk := ?_) | refine z_h (kk := ?_)))
    refine W.condT rfl (by first | rfl | assumption | (simp only [bnf] <;> omega) | (simp only [*, bnf]; done) | fail) ?_
    (repeat (first | with_reducible refine W.seq ?_ | with_reducible refine W.region ?_ | refine z_p (kk := ?_) | with_reducible refine W.skip ?_ | with_reducible refine W.block ?_))
    refine z_R (kk := fun A' m' p hsl hcap => ?_)
    refine Ops.call rfl rfl rfl rfl rfl (list_c ⟨Sl.below hsl hO.o.bel, _, _, rfl, hcap⟩) (fun r w5 hR => ?_)
    have hO5 := hO.below hR.bel
    have hr1 : r.oneCell' = true := by obtain ⟨A, c, rfl⟩ := hR.sh; rfl
    refine Ops.pushO (enc := fun v : Value => v) (u := r) rfl rfl rfl rfl rfl rfl rfl rfl rfl rfl rfl rfl (fun _ => rfl) hr1 hO5.o (by omega) (fun lv' p w6 hO6 k6 hn6 => ?_)
    have hO7 := hO5.push (hR.sl (z := (0 : Int))) (fun hp j hj e => by have := hR.ge j hj; have := (hO.o.own.lt j e).2; omega) hO6 k6 hn6
    rw [← tab_succ g1] at hO7
    (repeat (first | with_reducible refine Ops.nil ?_ | with_reducible refine W.region ?_ | refine z_p (kk := ?_) | refine z_a (kk := ?_) | with_reducible refine W.endb ?_))
    exact W.endl ⟨_, _, ⟨⟨i + 1, _, _, rfl, by omega, by omega, rfl, hO7⟩, by omega⟩, (by repeat (first | exact trivial | refine And.intro rfl ?_))⟩
  · have hfin : (c.take i).map (fun x : List Int => x.take 8) = tab c := by
      unfold tab
      by_cases h1 : i < c.length
      · rw [show i = 8 by omega]
      · rw [List.take_of_length_le (by omega), List.take_of_length_le (by omega)]
    rw [hfin] at hO
    by_cases h1 : i < c.length
    · have h2 : ¬ i ≤ 7 := by omega
      (repeat (first | with_reducible refine W.seq ?_ | with_reducible refine Ops.nil ?_ | with_reducible refine W.region ?_ | refine z_p (kk := ?_) | refine z_y (kk := ?_) | refine z_l (kk := ?_) | refine z_h (kk := ?_)))
      refine W.condF rfl (by first | rfl | assumption | (simp only [bnf] <;> omega) | (simp only [*, bnf]; done) | fail) ?_
      (repeat (first | with_reducible refine W.seq ?_ | with_reducible refine Ops.nil ?_ | with_reducible refine W.region ?_ | refine z_p (kk := ?_) | refine W.exit rfl ?_))
      exact W.fret rfl ⟨cvs, hO⟩
    · (repeat (first | with_reducible refine W.seq ?_ | with_reducible refine Ops.nil ?_ | with_reducible refine W.region ?_ | refine z_p (kk := ?_) | refine z_n (kk := ?_) | refine z_l (kk := ?_) | refine z_g (kk := ?_)))
      refine W.condF rfl (by first | rfl | assumption | (simp only [bnf] <;> omega) | (simp only [*, bnf]; done) | fail) ?_
      (repeat (first | with_reducible refine W.seq ?_ | with_reducible refine Ops.nil ?_ | with_reducible refine W.region ?_ | refine z_p (kk := ?_) | refine W.exit rfl ?_))
      exact W.fret rfl ⟨cvs, hO⟩
end Go.Proofs.Ytehjmakiljhjdaa
namespace Go.Proofs.Ytehjmakiljhjdaa
open Go Go.RowKit Go.Proofs.Ytehjmakiljhjdaa.VW
attribute [local irreducible] W Ops OrdA VW.Ord OrdX
/-- The sum of prices, as far as button i. -/
def sumP (u v : List Int) : Nat → Int
  | 0 => 0
  | i + 1 => sumP u v i + u.getD i 0 + v.getD i 0
def Bd (u : List Int) (i : Nat) : Prop := -1000000 ≤ u.getD i 0 ∧ u.getD i 0 ≤ 1000000
def ent (c : List (List Int)) (i j : Nat) : Int := (c.getD i []).getD j 0
/-- Prices that prove an assignment. -/
def Prov (c : List (List Int)) (a u v : List Int) : Prop := Asg a c.length ∧ u.length = c.length ∧ v.length = c.length ∧ (∀ i, i < c.length → Bd u i ∧ Bd v i) ∧ (∀ i, i < c.length → ∀ j, j < c.length → u.getD i 0 + v.getD j 0 ≤ ent c i j) ∧ sumP u v c.length = totP c a c.length
instance (u : List Int) (i : Nat) : Decidable (Bd u i) := by unfold Bd; infer_instance
instance (c : List (List Int)) (a u v : List Int) : Decidable (Prov c a u v) := by unfold Prov; infer_instance
theorem sumP_bd {u v : List Int} {n : Nat} (h : ∀ i, i < n → Bd u i ∧ Bd v i) : ∀ i, i ≤ n → -(2000000 * (i : Int)) ≤ sumP u v i ∧ sumP u v i ≤ 2000000 * (i : Int)
  | 0, _ => by simp [sumP]
  | i + 1, hi => by
    have h1 := sumP_bd h i (by omega)
    obtain ⟨⟨h2, h3⟩, h4, h5⟩ := h i (by omega)
    simp only [sumP]
    omega
set_option maxHeartbeats 2000000 in
theorem proves_c {w : World} {cv av uv vv : Value} {c : List (List Int)} {a u v : List Int} (hM : RowsM w cv c) (hC : Cst c) (ha : SlI w av a) (hu : SlI w uv u) (hv : SlI w vv v) :
    Calls Try.prog 39 #[cv, av, uv, vv] w (Ret fun r w' => r = .bool (decide (Prov c a u v)) ∧ Below w.heap.size w w') := by
  have hn7 := hC.n7
  have hlu := Sl.len hu
  have hlv := Sl.len hv
  obtain ⟨Ac, cc, rfl⟩ := hM.sl
  obtain ⟨A, ka, rfl⟩ := Sl.shape ha
  obtain ⟨U, ku, rfl⟩ := Sl.shape hu
  obtain ⟨V, kv, rfl⟩ := Sl.shape hv
  have hdec : (Prov c a u v → False) → Value.bool false = Value.bool (decide (Prov c a u v)) := fun h2 => by rw [decide_eq_false h2]
  refine calls_W (vs := [_, _, _, _]) Try.func39 rfl (by kernel_rfl) rfl ?_
  (repeat (first | with_reducible refine W.seq ?_ | with_reducible refine Ops.nil ?_ | with_reducible refine W.region ?_ | refine z_p (kk := ?_) | refine z_l (kk := ?_)))
  refine Ops.call rfl rfl rfl rfl rfl (refAsg_c ha (by omega)) (fun r w1 hR => ?_)
  obtain ⟨rfl, hb1⟩ := hR
  by_cases hA : Asg a c.length
  · rw [decide_eq_true hA]
    by_cases hUl : u.length = c.length
    · by_cases hVl : v.length = c.length
      · (repeat (first | with_reducible refine Ops.nil ?_ | refine z_p (kk := ?_) | refine z_y (kk := ?_) | refine z_l (kk := ?_) | refine z_h (kk := ?_)))
        refine W.condF rfl (by first | rfl | assumption | (simp only [bnf] <;> omega) | (simp only [*, bnf]; done) | fail) ?_
        (repeat (first | with_reducible refine W.seq ?_ | with_reducible refine Ops.nil ?_ | with_reducible refine W.region ?_ | refine z_p (kk := ?_) | with_reducible refine W.skip ?_ | with_reducible refine W.block ?_))
        refine W.loop (fun m ρ w2 => ∃ (i : Nat), m = c.length - i ∧ i ≤ c.length ∧ ρ = [(0, .slice Ac c.length cc), (1, .slice A a.length ka), (2, .slice U u.length ku), (3, .slice V v.length kv), (9, .int .i64 c.length), (10, .int .i64 (sumP u v i)), (11, .int .i64 i)] ∧ Below w.heap.size w w2 ∧ ∀ j, j < i → Bd u j ∧ Bd v j)
          ⟨_, _, ⟨0, rfl, Nat.zero_le _, rfl, hb1, fun j hj => by omega⟩, (by repeat (first | exact trivial | refine And.intro rfl ?_))⟩ ?_
        rintro m ρ w2 ⟨i, rfl, hi, rfl, hb2, hbd⟩
        have hsb := sumP_bd hbd i (Nat.le_refl _)
        (repeat (first | with_reducible refine W.seq ?_ | with_reducible refine Ops.nil ?_ | with_reducible refine W.region ?_ | refine z_p (kk := ?_)))
        (first | refine W.condD rfl (fun hc => ?_) (fun hc => ?_) | refine W.condE rfl (fun hc => ?_) (fun hc => ?_) | refine W.condN rfl (fun hc => ?_) (fun hc => ?_) | refine W.cond rfl (fun hc => ?_) (fun hc => ?_))
        · have hil : i < c.length := by omega
          by_cases h1 : u.getD i 0 < -1000000
          · (repeat (first | with_reducible refine W.seq ?_ | with_reducible refine Ops.nil ?_ | with_reducible refine W.region ?_ | refine z_p (kk := ?_) | refine z_n (kk := ?_) | with_reducible refine W.skip ?_ | with_reducible refine W.block ?_ | refine z_I (kk := fun _ => ?_) | refine z_g (kk := ?_)))
            refine W.condT rfl (by first | rfl | assumption | (simp only [bnf] <;> omega) | (simp only [*, bnf]; done) | fail) ?_
            (repeat (first | with_reducible refine W.seq ?_ | with_reducible refine Ops.nil ?_ | with_reducible refine W.region ?_ | refine z_p (kk := ?_)))
            exact W.fret rfl ⟨hdec fun h => by have := (h.2.2.2.1 i hil).1.1; omega, hb2⟩
          by_cases h2 : u.getD i 0 > 1000000
          · (repeat (first | with_reducible refine W.seq ?_ | with_reducible refine Ops.nil ?_ | with_reducible refine W.region ?_ | refine z_p (kk := ?_) | refine z_y (kk := ?_) | refine z_n (kk := ?_) | with_reducible refine W.skip ?_ | with_reducible refine W.block ?_ | refine z_I (kk := fun _ => ?_) | refine z_g (kk := ?_) | refine z_h (kk := ?_)))
            refine W.condT rfl (by first | rfl | assumption | (simp only [bnf] <;> omega) | (simp only [*, bnf]; done) | fail) ?_
            (repeat (first | with_reducible refine W.seq ?_ | with_reducible refine Ops.nil ?_ | with_reducible refine W.region ?_ | refine z_p (kk := ?_)))
            exact W.fret rfl ⟨hdec fun h => by have := (h.2.2.2.1 i hil).1.2; omega, hb2⟩
          by_cases h3 : v.getD i 0 < -1000000
          · (repeat (first | with_reducible refine W.seq ?_ | with_reducible refine Ops.nil ?_ | with_reducible refine W.region ?_ | refine z_p (kk := ?_) | refine z_y (kk := ?_) | refine z_n (kk := ?_) | with_reducible refine W.skip ?_ | with_reducible refine W.block ?_ | refine z_I (kk := fun _ => ?_) | refine z_g (kk := ?_) | refine z_h (kk := ?_)))
            refine W.condT rfl (by first | rfl | assumption | (simp only [bnf] <;> omega) | (simp only [*, bnf]; done) | fail) ?_
            (repeat (first | with_reducible refine W.seq ?_ | with_reducible refine Ops.nil ?_ | with_reducible refine W.region ?_ | refine z_p (kk := ?_)))
            exact W.fret rfl ⟨hdec fun h => by have := (h.2.2.2.1 i hil).2.1; omega, hb2⟩
          by_cases h4 : v.getD i 0 > 1000000
          · (repeat (first | with_reducible refine W.seq ?_ | with_reducible refine Ops.nil ?_ | with_reducible refine W.region ?_ | refine z_p (kk := ?_) | refine z_y (kk := ?_) | with_reducible refine W.skip ?_ | with_reducible refine W.block ?_ | refine z_I (kk := fun _ => ?_) | refine z_h (kk := ?_)))
            refine W.condT rfl (by first | rfl | assumption | (simp only [bnf] <;> omega) | (simp only [*, bnf]; done) | fail) ?_
            (repeat (first | with_reducible refine W.seq ?_ | with_reducible refine Ops.nil ?_ | with_reducible refine W.region ?_ | refine z_p (kk := ?_)))
            exact W.fret rfl ⟨hdec fun h => by have := (h.2.2.2.1 i hil).2.2; omega, hb2⟩
          (repeat (first | with_reducible refine W.seq ?_ | with_reducible refine Ops.nil ?_ | with_reducible refine W.region ?_ | refine z_p (kk := ?_) | refine z_y (kk := ?_) | with_reducible refine W.skip ?_ | with_reducible refine W.block ?_ | refine z_I (kk := fun _ => ?_) | refine z_h (kk := ?_)))
          refine W.condF rfl (by first | rfl | assumption | (simp only [bnf] <;> omega) | (simp only [*, bnf]; done) | fail) ?_
          (repeat (first | with_reducible refine W.skip ?_))
          refine W.ordA 99 [(0, 1), (1, 1), (2, 1), (3, 1), (4, 2), (5, 1), (6, 1), (7, 1), (8, 1), (9, 2), (10, 1), (11, 1)] rfl (by kernel_rfl) rfl (by kernel_rfl) (fun _ _ _ h => h) ?_
          (repeat (first | refine x_p (kk := ?_) | refine x_a (kk := ?_) | refine x_I (kk := fun _ => ?_)))
          refine OrdA.nil (fun w3 hb3 => ?_)
          have hb03 := Below.via hb2 hb3
          (repeat (first | with_reducible refine Ops.nil ?_ | with_reducible refine W.region ?_ | refine z_p (kk := ?_) | refine z_a (kk := ?_) | with_reducible refine W.endb ?_))
          refine W.endl ⟨_, _, ⟨⟨i + 1, rfl, by omega, rfl, hb03, fun j hj => ?_⟩, by omega⟩, (by repeat (first | exact trivial | refine And.intro rfl ?_))⟩
          by_cases e : j = i
          · rw [e]; exact ⟨⟨by omega, by omega⟩, by omega, by omega⟩
          · exact hbd j (by omega)
        · have hil : i = c.length := by omega
          subst hil
          (repeat (first | with_reducible refine W.seq ?_ | with_reducible refine Ops.nil ?_ | with_reducible refine W.region ?_ | refine z_p (kk := ?_) | with_reducible refine W.block ?_ | refine W.exit rfl ?_))
          refine W.loop (fun m ρ w3 => ∃ (i : Nat), m = c.length - i ∧ i ≤ c.length ∧ ρ = [(0, .slice Ac c.length cc), (1, .slice A a.length ka), (2, .slice U u.length ku), (3, .slice V v.length kv), (9, .int .i64 c.length), (10, .int .i64 (sumP u v c.length)), (12, .int .i64 i)] ∧ Below w.heap.size w w3 ∧ ∀ p, p < i → ∀ j, j < c.length → u.getD p 0 + v.getD j 0 ≤ ent c p j)
            ⟨_, _, ⟨0, rfl, Nat.zero_le _, rfl, hb2, fun j hj => by omega⟩, (by repeat (first | exact trivial | refine And.intro rfl ?_))⟩ ?_
          rintro m ρ w3 ⟨i, rfl, hi, rfl, hb3, hle⟩
          (repeat (first | with_reducible refine W.seq ?_ | with_reducible refine Ops.nil ?_ | with_reducible refine W.region ?_ | refine z_p (kk := ?_)))
          (first | refine W.condD rfl (fun hc => ?_) (fun hc => ?_) | refine W.condE rfl (fun hc => ?_) (fun hc => ?_) | refine W.condN rfl (fun hc => ?_) (fun hc => ?_) | refine W.cond rfl (fun hc => ?_) (fun hc => ?_))
          · have hil : i < c.length := by omega
            have hui := (hbd i hil).1
            (repeat (first | with_reducible refine W.seq ?_ | with_reducible refine Ops.nil ?_ | with_reducible refine W.region ?_ | refine z_p (kk := ?_) | with_reducible refine W.skip ?_ | with_reducible refine W.block ?_))
            refine W.loop (fun m ρ w4 => ∃ (j : Nat), m = c.length - j ∧ j ≤ c.length ∧ ρ = [(0, .slice Ac c.length cc), (1, .slice A a.length ka), (2, .slice U u.length ku), (3, .slice V v.length kv), (9, .int .i64 c.length), (10, .int .i64 (sumP u v c.length)), (12, .int .i64 i), (13, .int .i64 j)] ∧ Below w.heap.size w w4 ∧ ∀ q, q < j → u.getD i 0 + v.getD q 0 ≤ ent c i q)
              ⟨_, _, ⟨0, rfl, Nat.zero_le _, rfl, hb3, fun j hj => by omega⟩, (by repeat (first | exact trivial | refine And.intro rfl ?_))⟩ ?_
            rintro m ρ w4 ⟨j, rfl, hj, rfl, hb4, hlj⟩
            (repeat (first | with_reducible refine W.seq ?_ | with_reducible refine Ops.nil ?_ | with_reducible refine W.region ?_ | refine z_p (kk := ?_)))
            (first | refine W.condD rfl (fun hc => ?_) (fun hc => ?_) | refine W.condE rfl (fun hc => ?_) (fun hc => ?_) | refine W.condN rfl (fun hc => ?_) (fun hc => ?_) | refine W.cond rfl (fun hc => ?_) (fun hc => ?_))
            · have hjl : j < c.length := by omega
              have hcl := hC.len i hil
              have hrow : row c (i : Int) = c.getD i [] := by simp [row]
              rw [← hrow] at hcl
              have hvj := (hbd j hjl).2
              obtain ⟨_, _⟩ := hui
              obtain ⟨_, _⟩ := hvj
              (repeat (first | with_reducible refine W.seq ?_ | with_reducible refine W.skip ?_ | with_reducible refine W.block ?_))
              refine W.ordA 99 [(0, 1), (1, 1), (2, 1), (3, 2), (4, 1), (5, 1), (6, 1), (7, 2), (8, 1), (9, 1), (10, 1), (11, 1), (12, 2), (13, 1), (14, 1), (15, 2), (16, 1)] rfl (by kernel_rfl) rfl (by kernel_rfl) (fun _ _ _ h => h) ?_
              (repeat (first | refine x_p (kk := ?_) | refine x_a (kk := ?_) | refine x_I (kk := fun _ => ?_) | refine x_r (kk := fun _ _ _ _ => ?_)))
              refine OrdA.nil (fun w5 hb5 => ?_)
              have hb05 := Below.via hb4 hb5
              by_cases e : u.getD i 0 + v.getD j 0 > (row c i).getD j 0
              · skip
                refine W.condT rfl (by first | rfl | assumption | (simp only [bnf] <;> omega) | (simp only [*, bnf]; done) | fail) ?_
                (repeat (first | with_reducible refine W.seq ?_ | with_reducible refine Ops.nil ?_ | with_reducible refine W.region ?_ | refine z_p (kk := ?_)))
                exact W.fret rfl ⟨hdec fun h => by have := h.2.2.2.2.1 i hil j hjl; simp only [ent, ← hrow] at this; omega, hb05⟩
              · skip
                refine W.condF rfl (by first | rfl | assumption | (simp only [bnf] <;> omega) | (simp only [*, bnf]; done) | fail) ?_
                (repeat (first | with_reducible refine Ops.nil ?_ | with_reducible refine W.region ?_ | refine z_p (kk := ?_) | refine z_a (kk := ?_) | with_reducible refine W.skip ?_ | with_reducible refine W.endb ?_))
                refine W.endl ⟨_, _, ⟨⟨j + 1, rfl, by omega, rfl, hb05, fun q hq => ?_⟩, by omega⟩, (by repeat (first | exact trivial | refine And.intro rfl ?_))⟩
                by_cases e2 : q = j
                · rw [e2]; simp only [ent, ← hrow]; omega
                · exact hlj q (by omega)
            · have hjl : j = c.length := by omega
              subst hjl
              (repeat (first | with_reducible refine Ops.nil ?_ | with_reducible refine W.region ?_ | refine z_p (kk := ?_) | refine z_a (kk := ?_) | with_reducible refine W.endb ?_ | refine W.exit rfl ?_))
              refine W.endl ⟨_, _, ⟨⟨i + 1, rfl, by omega, rfl, hb4, fun p hp => ?_⟩, by omega⟩, (by repeat (first | exact trivial | refine And.intro rfl ?_))⟩
              by_cases e2 : p = i
              · rw [e2]; exact hlj
              · exact hle p (by omega)
          · have hil : i = c.length := by omega
            subst hil
            (repeat (first | with_reducible refine W.seq ?_ | with_reducible refine W.region ?_ | refine z_p (kk := ?_) | refine W.exit rfl ?_))
            refine Ops.call rfl rfl rfl rfl rfl (refTotal_c (hM.below hb3) hC (Sl.below ha hb3) (fun i hi => (hA.2 i hi).1) (by rw [hA.1]; omega)) (fun r w5 hR => ?_)
            obtain ⟨rfl, hb5⟩ := hR
            (repeat (first | with_reducible refine Ops.nil ?_ | refine z_p (kk := ?_)))
            refine W.fret rfl ⟨?_, Below.via hb3 hb5⟩
            show Value.bool _ = _
            congr 1
            rw [Bool.eq_iff_iff, decide_eq_true_iff, beq_iff_eq, hA.1]
            exact ⟨fun h => ⟨hA, hUl, hVl, hbd, hle, h⟩, fun h => h.2.2.2.2.2⟩
      · have hVl' : (v.length : Int) ≠ c.length := by omega
        (repeat (first | with_reducible refine Ops.nil ?_ | refine z_p (kk := ?_) | refine z_y (kk := ?_) | refine z_l (kk := ?_) | refine z_h (kk := ?_)))
        refine W.condT rfl (by first | rfl | assumption | (simp only [bnf] <;> omega) | (simp only [*, bnf]; done) | fail) ?_
        (repeat (first | with_reducible refine W.seq ?_ | with_reducible refine Ops.nil ?_ | with_reducible refine W.region ?_ | refine z_p (kk := ?_)))
        exact W.fret rfl ⟨hdec fun h => hVl h.2.2.1, hb1⟩
    · have hUl' : (u.length : Int) ≠ c.length := by omega
      (repeat (first | with_reducible refine Ops.nil ?_ | refine z_p (kk := ?_) | refine z_y (kk := ?_) | refine z_n (kk := ?_) | refine z_l (kk := ?_) | refine z_g (kk := ?_)))
      refine W.condT rfl (by first | rfl | assumption | (simp only [bnf] <;> omega) | (simp only [*, bnf]; done) | fail) ?_
      (repeat (first | with_reducible refine W.seq ?_ | with_reducible refine Ops.nil ?_ | with_reducible refine W.region ?_ | refine z_p (kk := ?_)))
      exact W.fret rfl ⟨hdec fun h => hUl h.2.1, hb1⟩
  · rw [decide_eq_false hA]
    (repeat (first | with_reducible refine Ops.nil ?_ | refine z_p (kk := ?_) | refine z_n (kk := ?_)))
    refine W.condT rfl (by first | rfl | assumption | (simp only [bnf] <;> omega) | (simp only [*, bnf]; done) | fail) ?_
    (repeat (first | with_reducible refine W.seq ?_ | with_reducible refine Ops.nil ?_ | with_reducible refine W.region ?_ | refine z_p (kk := ?_)))
    exact W.fret rfl ⟨hdec fun h => hA h.1, hb1⟩
end Go.Proofs.Ytehjmakiljhjdaa
namespace Go.Proofs.Ytehjmakiljhjdaa
open Go Go.RowKit Go.Proofs.Ytehjmakiljhjdaa.VW
def pairTy (P : Program) (t e : Nat) : Bool := match P.underlying t with
  | some (.struct fs) => match fs.toList with
    | [f, g] => f.offset == 0 && g.offset == 1 && f.type == e && g.type == e && f.name != "_" && g.name != "_"
    | _ => false
  | _ => false
theorem pairTy_out {P : Program} {t e : Nat} (h : pairTy P t e = true) : ∃ f g : Field, P.underlying t = some (.struct #[f, g]) ∧ f.offset = 0 ∧ g.offset = 1 ∧ f.type = e ∧ g.type = e ∧ (f.name != "_") = true ∧ (g.name != "_") = true := by
  unfold pairTy at h
  split at h
  · rename_i fs hu
    split at h
    · rename_i f g hl
      simp only [Bool.and_eq_true, beq_iff_eq] at h
      refine ⟨f, g, ?_, h.1.1.1.1.1, h.1.1.1.1.2, h.1.1.1.2, h.1.1.2, h.1.2, h.2⟩
      rw [hu]
      have : fs = #[f, g] := by apply Array.toList_inj.1; rw [hl]
      rw [this]
    · cases h
  · cases h
theorem laidOut : laidOutB Try.prog = true := by kernel_rfl
theorem sz82 : (decide (Try.prog.types.size + 1 ≤ 10000) && decide (82 < Try.prog.types.size) && decide (0 < Try.prog.types.size)) = true := by kernel_rfl
theorem keyLaw : WideMaps.KeyLaw Try.prog 82 := by
  have h := sz82
  simp only [Bool.and_eq_true, decide_eq_true_eq] at h
  exact deep_law_laid laidOut (m := Try.prog.types.size) h.1.1 h.1.2 (by kernel_rfl) (by kernel_rfl)
def encP (p : Nat × Nat) : Value := .agg #[.int .i64 p.1, .int .i64 p.2]
theorem encP_inj (a b : Nat × Nat) (h : encP a = encP b) : a = b := by
  simp [encP] at h
  exact Prod.ext (by have := h.1; omega) (by have := h.2; omega)
theorem encP_key {p : Nat × Nat} (h1 : p.1 ≤ 1000000) (h2 : p.2 ≤ 1000000) : isKey Try.prog 82 (encP p) := by
  obtain ⟨f, g, hu, f0, g1, ft, gt, fn, gn⟩ := pairTy_out (P := Try.prog) (t := 82) (e := 3) (by kernel_rfl)
  have hkt : Try.prog.keyType 82 = true := by kernel_rfl
  have hc : Try.prog.cellsOf 82 = 2 := by kernel_rfl
  have hc3 : Try.prog.cellsOf 3 = 1 := by kernel_rfl
  have und3 : Try.prog.underlying 3 = some (.int .i64) := td_int (by kernel_rfl)
  have w1 : (Lit.int .i64 (p.1 : Int)).wf = true := by simp [Lit.wf, IntKind.min, IntKind.max, IntKind.bits, IntKind.signed]; omega
  have w2 : (Lit.int .i64 (p.2 : Int)).wf = true := by simp [Lit.wf, IntKind.min, IntKind.max, IntKind.bits, IntKind.signed]; omega
  refine ⟨.string (keyBytes [.int .i64 p.1, .int .i64 p.2]), ?_⟩
  have h := sz82
  simp only [Bool.and_eq_true, decide_eq_true_eq] at h
  obtain ⟨m, hm⟩ : ∃ m, Try.prog.types.size = m + 1 := ⟨Try.prog.types.size - 1, by omega⟩
  unfold keyOf
  simp only [hu]
  rw [if_pos (by simp [hkt, Value.formed, hu, hc, encP]), hm]
  unfold Program.keyLits
  simp only [hu, encP, Value.cells]
  rw [if_pos (by rw [hc]; exact ⟨rfl, by simp [fn, gn]⟩)]
  simp [f0, g1, ft, gt, hc3, Program.keyLits, und3, w1, w2]
end Go.Proofs.Ytehjmakiljhjdaa
namespace Go.Proofs.Ytehjmakiljhjdaa
open Go Go.RowKit Go.Proofs.Ytehjmakiljhjdaa.VW
attribute [local irreducible] W Ops OrdA VW.Ord OrdX
/-- The best hole among the first ones; F: what the others cost then. -/
def stepJ (r : List Int) (t : Nat) (F : Nat → Int) : Nat → Int × Bool
  | 0 => (0, false)
  | j + 1 => if t.testBit j then stepJ r t F j else
      if !(stepJ r t F j).2 || decide (r.getD j 0 + F (t ||| 2 ^ j) < (stepJ r t F j).1) then (r.getD j 0 + F (t ||| 2 ^ j), true) else stepJ r t F j
/-- The smallest total of the last k buttons. -/
def restS (c : List (List Int)) (g : Int → Bool) : Nat → Nat → Int
  | 0, _ => 0
  | k + 1, t => if g ((c.length - (k + 1) : Nat) : Int) then restS c g k t else (stepJ (c.getD (c.length - (k + 1)) []) t (restS c g k) c.length).1
theorem stepJ_bd {r : List Int} {t : Nat} {F : Nat → Int} {B : Int} (h0 : 0 ≤ B) (hr : ∀ j, j < r.length → -1000 ≤ r.getD j 0 ∧ r.getD j 0 ≤ 1000) (hF : ∀ t, -B ≤ F t ∧ F t ≤ B) : ∀ j, j ≤ r.length → -(B + 1000) ≤ (stepJ r t F j).1 ∧ (stepJ r t F j).1 ≤ B + 1000
  | 0, _ => by simp [stepJ]; omega
  | j + 1, hj => by
    have h1 := stepJ_bd (t := t) h0 hr hF j (by omega)
    have h2 := hr j (by omega)
    have h3 := hF (t ||| 2 ^ j)
    simp only [stepJ]
    split
    · exact h1
    · split
      · simp only; omega
      · exact h1
theorem restS_bd {c : List (List Int)} {g : Int → Bool} (hC : Cst c) : ∀ k, k ≤ c.length → ∀ t, -(1000 * (k : Int)) ≤ restS c g k t ∧ restS c g k t ≤ 1000 * (k : Int)
  | 0, _, t => by simp [restS]
  | k + 1, hk, t => by
    have h1 := restS_bd (g := g) hC k (by omega)
    simp only [restS]
    split
    · have := h1 t; omega
    · have hl := hC.len (c.length - (k + 1)) (by omega)
      have := stepJ_bd (r := c.getD (c.length - (k + 1)) []) (t := t) (F := restS c g k) (B := 1000 * (k : Int)) (by omega) (fun j hj => hC.bd _ j (by omega) (by omega)) h1 c.length (by omega)
      omega
/-- What is known holds. -/
def Good (c : List (List Int)) (g : Int → Bool) (f : Nat × Nat → Option Int) : Prop := ∀ q v, f q = some v → q.1 ≤ c.length ∧ v = restS c g (c.length - q.1) q.2
theorem or_lt {t j n : Nat} (ht : t < 2 ^ n) (hj : j < n) : t ||| 2 ^ j < 2 ^ n := Nat.or_lt_two_pow ht (Nat.pow_lt_pow_right (by omega) hj)
theorem pow7 {n : Nat} (h : n ≤ 7) : 2 ^ n ≤ 128 := by
  calc 2 ^ n ≤ 2 ^ 7 := Nat.pow_le_pow_right (by omega) h
    _ = 128 := rfl
theorem kpb {b : Nat} {w w1 w2 : World} (h : Kp (fun i => i = b) w w1) (k : Kp (fun i => i = b) w1 w2) : Kp (fun i => i = b) w w2 := (h.trans k).mono (fun i _ e => by rcases e with e | e <;> exact e)
theorem kpn {b : Nat} {w w1 : World} (h : Kp (fun _ => False) w w1) : Kp (fun i => i = b) w w1 := h.mono (fun _ _ e => e.elim)
set_option maxHeartbeats 4000000 in
theorem rest_c {w0 : World} {cv ov : Value} {c : List (List Int)} {g : Int → Bool} {b : Nat} (hM : RowsM w0 cv c) (hC : Cst c) (hb0 : w0.heap.size ≤ b) : ∀ (k t : Nat) (w : World) (f : Nat × Nat → Option Int), k ≤ c.length → t < 2 ^ c.length → Below w0.heap.size w0 w → MapK Try.prog 82 encP w b f → Good c g f → OutM w ov g b →
    Calls Try.prog 62 #[cv, .map (some b), ov, .agg #[.int .i64 ((c.length - k : Nat) : Int), .int .i64 (t : Int)]] w (Ret fun r w' => r = .int .i64 (restS c g k t) ∧ Kp (fun i => i = b) w w' ∧ ∃ f', MapK Try.prog 82 encP w' b f' ∧ Good c g f' ∧ ∀ q : Nat × Nat, q.1 < c.length - k → f' q = f q) := by
  have hn7 := hC.n7
  have hp7 := pow7 hn7
  obtain ⟨Ac, cc, rfl⟩ := hM.sl
  intro k
  induction k with
  | zero =>
    intro t w f hk ht hb1 hm hG hO
    refine calls_W (vs := [_, _, _, _]) Try.func62 rfl (by kernel_rfl) rfl ?_
    (repeat (first | with_reducible refine W.seq ?_ | with_reducible refine W.region ?_))
    refine Ops.box rfl rfl rfl rfl (fun w1 r hr => ?_)
    have hblk : Blk w1 r #[.int .i64 ((c.length - 0 : Nat) : Int), .int .i64 (t : Int)] 82 := hr.at_
    (repeat (first | with_reducible refine W.seq ?_ | with_reducible refine Ops.nil ?_ | with_reducible refine W.region ?_ | refine z_p (kk := ?_) | refine z_l (kk := ?_) | refine z_f (kk := ?_) | refine z_d (kk := ?_)))
    refine W.condT rfl (by first | rfl | assumption | (simp only [bnf] <;> omega) | (simp only [*, bnf]; done) | fail) ?_
    (repeat (first | with_reducible refine W.seq ?_ | with_reducible refine Ops.nil ?_ | with_reducible refine W.region ?_ | refine z_p (kk := ?_)))
    exact W.fret rfl ⟨rfl, kpn hr.kp, f, hm.kp hr.kp (fun e => e), hG, fun q _ => rfl⟩
  | succ k ih =>
    intro t w f hk ht hb1 hm hG hO
    refine calls_W (vs := [_, _, _, _]) Try.func62 rfl (by kernel_rfl) rfl ?_
    (repeat (first | with_reducible refine W.seq ?_ | with_reducible refine W.region ?_))
    refine Ops.box rfl rfl rfl rfl (fun w1 r hr => ?_)
    have hblk : Blk w1 r #[.int .i64 ((c.length - (k + 1) : Nat) : Int), .int .i64 (t : Int)] 82 := hr.at_
    have hk1 : Kp (fun i => i = b) w w1 := kpn hr.kp
    have hb01 : Below w0.heap.size w0 w1 := Below.put hb1 hk1 (fun i e => by omega)
    have hO1 := hO.kpb hk1
    have hm1 := hm.kp hr.kp (fun e => e)
    have hrb' : ¬ r = b := by have := hm.lt; have := hr.r_eq; omega
    (repeat (first | with_reducible refine W.seq ?_ | with_reducible refine Ops.nil ?_ | with_reducible refine W.region ?_ | refine z_p (kk := ?_) | refine z_l (kk := ?_) | refine z_f (kk := ?_) | refine z_d (kk := ?_)))
    refine W.condF rfl (by first | rfl | assumption | (simp only [bnf] <;> omega) | (simp only [*, bnf]; done) | fail) ?_
    (repeat (first | with_reducible refine W.seq ?_ | with_reducible refine W.region ?_ | refine z_p (kk := ?_) | with_reducible refine W.skip ?_ | refine z_f (kk := ?_) | refine z_d (kk := ?_)))
    refine Ops.lookO rfl rfl rfl rfl rfl rfl rfl rfl hO1 ?_
    have ei : ((c.length - (k + 1) : Nat) : Int) + 1 = ((c.length - k : Nat) : Int) := by omega
    cases hg : g ((c.length - (k + 1) : Nat) : Int) with
    | true =>
      (repeat (first | with_reducible refine Ops.nil ?_))
      refine W.condT rfl (by first | rfl | assumption | (simp only [bnf] <;> omega) | (simp only [*, bnf]; done) | fail) ?_
      (repeat (first | with_reducible refine W.seq ?_ | with_reducible refine W.region ?_ | refine z_p (kk := ?_) | refine z_a (kk := ?_) | refine z_f (kk := ?_) | refine z_d (kk := ?_) | refine z_B (kk := ?_)))
      rw [ei]
      refine Ops.call rfl rfl rfl rfl rfl (ih t w1 f (by omega) ht hb01 hm1 hG hO1) (fun r2 w2 hR => ?_)
      obtain ⟨rfl, hk2, f', hm2, hG2, hf2⟩ := hR
      (repeat (first | with_reducible refine Ops.nil ?_ | refine z_p (kk := ?_)))
      exact W.fret rfl ⟨by rw [restS, if_pos hg]; rfl, kpb hk1 hk2, f', hm2, hG2, fun q hq => hf2 q (by omega)⟩
    | false =>
      have hkey : isKey Try.prog 82 (encP (c.length - (k + 1), t)) := encP_key (by simp only; omega) (by simp only; omega)
      have hrest : restS c g (k + 1) t = (stepJ (c.getD (c.length - (k + 1)) []) t (restS c g k) c.length).1 := by rw [restS, hg]; rfl
      have hnk : c.length - (c.length - (k + 1)) = k + 1 := by omega
      (repeat (first | with_reducible refine Ops.nil ?_))
      refine W.condF rfl (by first | rfl | assumption | (simp only [bnf] <;> omega) | (simp only [*, bnf]; done) | fail) ?_
      (repeat (first | with_reducible refine W.seq ?_ | with_reducible refine W.region ?_ | refine z_p (kk := ?_) | with_reducible refine W.skip ?_ | refine z_2 (kk := ?_)))
      refine Ops.lookKk (p := (c.length - (k + 1), t)) keyLaw encP_inj rfl rfl rfl rfl rfl rfl rfl hkey hm1 ?_
      cases hfp : f (c.length - (k + 1), t) with
      | some v =>
        have hv := hG _ _ hfp
        simp only [hnk] at hv
        (repeat (first | with_reducible refine W.seq ?_ | with_reducible refine Ops.nil ?_ | with_reducible refine W.region ?_ | refine z_p (kk := ?_)))
        refine W.condF rfl (by first | rfl | assumption | (simp only [bnf] <;> omega) | (simp only [*, bnf]; done) | fail) ?_
        (repeat (first | with_reducible refine W.seq ?_ | with_reducible refine W.region ?_ | refine z_p (kk := ?_) | with_reducible refine W.skip ?_ | refine z_2 (kk := ?_)))
        refine Ops.lookK (p := (c.length - (k + 1), t)) keyLaw encP_inj rfl rfl rfl rfl rfl rfl rfl hkey hm1 ?_
        (repeat (first | with_reducible refine Ops.nil ?_ | refine z_p (kk := ?_)))
        exact W.fret rfl ⟨by rw [hfp, hv.2]; rfl, hk1, f, hm1, hG, fun q hq => rfl⟩
      | none =>
        have hrow : row c ((c.length - (k + 1) : Nat) : Int) = c.getD (c.length - (k + 1)) [] := by simp [row]
        have hcl := hC.len (c.length - (k + 1)) (by omega)
        rw [← hrow] at hcl hrest
        have hrb : ∀ j, j < (row c ((c.length - (k + 1) : Nat) : Int)).length → -1000 ≤ (row c ((c.length - (k + 1) : Nat) : Int)).getD j 0 ∧ (row c ((c.length - (k + 1) : Nat) : Int)).getD j 0 ≤ 1000 := fun j hj => by rw [hrow]; exact hC.bd _ j (by omega) (by omega)
        have hbd1 := restS_bd (g := g) hC k (by omega)
        have hbd2 := fun j hj => stepJ_bd (t := t) (by omega) hrb hbd1 j hj
        (repeat (first | with_reducible refine W.seq ?_ | with_reducible refine Ops.nil ?_ | with_reducible refine W.region ?_ | refine z_p (kk := ?_)))
        refine W.condT rfl (by first | rfl | assumption | (simp only [bnf] <;> omega) | (simp only [*, bnf]; done) | fail) ?_
        (repeat (first | with_reducible refine W.seq ?_ | with_reducible refine Ops.nil ?_ | with_reducible refine W.region ?_ | refine z_p (kk := ?_) | with_reducible refine W.block ?_ | refine z_l (kk := ?_) | refine z_f (kk := ?_) | refine z_d (kk := ?_) | refine z_r (kk := fun _ _ _ _ => ?_)))
        rename_i A m p hsl
        refine W.loop (fun mm ρ w2 => ∃ (j : Nat) (best : Int) (found : Bool) (f2 : Nat × Nat → Option Int), mm = c.length - j ∧ j ≤ c.length ∧ stepJ (row c ((c.length - (k + 1) : Nat) : Int)) t (restS c g k) j = (best, found) ∧ ρ = [(0, .slice Ac c.length cc), (1, .map (some b)), (2, ov), (7, .pointer (some ⟨r, 0, none⟩)), (11, .int .i64 best), (12, .bool found), (47, .slice A (row c ((c.length - (k + 1) : Nat) : Int)).length m), (48, .int .i64 (row c ((c.length - (k + 1) : Nat) : Int)).length), (49, .int .i64 j)] ∧ Kp (fun i => i = b) w w2 ∧ Blk w2 r #[.int .i64 ((c.length - (k + 1) : Nat) : Int), .int .i64 (t : Int)] 82 ∧ MapK Try.prog 82 encP w2 b f2 ∧ Good c g f2 ∧ OutM w2 ov g b ∧ ∀ q : Nat × Nat, q.1 < c.length - k → f2 q = f q)
          ⟨_, _, ⟨0, 0, false, f, rfl, Nat.zero_le _, rfl, rfl, hk1, hblk, hm1, hG, hO1, fun q _ => rfl⟩, (by repeat (first | exact trivial | refine And.intro rfl ?_))⟩ ?_
        rintro mm ρ w2 ⟨j, best, found, f2, rfl, hj, hst, rfl, hk2, hblk2, hm2, hG2, hO2, hf2⟩
        have hb02 : Below w0.heap.size w0 w2 := Below.put hb1 hk2 (fun i e => by omega)
        have hbest := hbd2 j (by omega)
        rw [hst] at hbest
        simp only at hbest
        (repeat (first | with_reducible refine W.seq ?_ | with_reducible refine Ops.nil ?_ | with_reducible refine W.region ?_ | refine z_p (kk := ?_)))
        (first | refine W.condD rfl (fun hc => ?_) (fun hc => ?_) | refine W.condE rfl (fun hc => ?_) (fun hc => ?_) | refine W.condN rfl (fun hc => ?_) (fun hc => ?_) | refine W.cond rfl (fun hc => ?_) (fun hc => ?_))
        · have hjl : j < c.length := by omega
          have hdiv : t / 2 ^ j ≤ t := Nat.div_le_self _ _
          (repeat (first | with_reducible refine W.seq ?_ | with_reducible refine Ops.nil ?_ | with_reducible refine W.region ?_ | refine z_p (kk := ?_) | with_reducible refine W.skip ?_ | with_reducible refine W.block ?_ | refine z_f (kk := ?_) | refine z_d (kk := ?_) | refine z_I (kk := fun _ => ?_) | refine z_Q (kk := ?_) | refine z_1 (kk := ?_)))
          by_cases hbit : t.testBit j = true
          · have hstep : stepJ (row c ((c.length - (k + 1) : Nat) : Int)) t (restS c g k) (j + 1) = (best, found) := by rw [stepJ, if_pos hbit, hst]
            refine W.condT rfl (by rw [bit_iff]; exact hbit) ?_
            (repeat (first | with_reducible refine Ops.nil ?_ | with_reducible refine W.region ?_ | refine z_p (kk := ?_) | refine z_a (kk := ?_) | refine W.exit rfl ?_))
            exact W.endl ⟨_, _, ⟨⟨j + 1, best, found, f2, rfl, by omega, hstep, rfl, hk2, hblk2, hm2, hG2, hO2, hf2⟩, by omega⟩, (by repeat (first | exact trivial | refine And.intro rfl ?_))⟩
          · have hstep : stepJ (row c ((c.length - (k + 1) : Nat) : Int)) t (restS c g k) (j + 1) = if !found || decide ((row c ((c.length - (k + 1) : Nat) : Int)).getD j 0 + restS c g k (t ||| 2 ^ j) < best) then ((row c ((c.length - (k + 1) : Nat) : Int)).getD j 0 + restS c g k (t ||| 2 ^ j), true) else (best, found) := by rw [stepJ, if_neg hbit, hst]
            refine W.condF rfl (by rw [bit_iff]; simpa using hbit) ?_
            have hj2 : 2 ^ j < 2 ^ c.length := Nat.pow_lt_pow_right (by omega) hjl
            (repeat (first | with_reducible refine W.seq ?_ | with_reducible refine W.skip ?_))
            refine W.ordA 13 [(0, 1), (1, 1), (2, 1), (3, 1), (4, 1), (5, 2), (6, 1), (7, 1), (8, 2), (9, 1), (10, 1), (11, 1), (12, 1), (13, 0), (14, 1), (15, 1)] rfl (by kernel_rfl) rfl (by kernel_rfl) (fun _ _ _ h => h) ?_
            (repeat (first | refine x_p (kk := ?_) | refine x_a (kk := ?_) | refine x_D (kk := ?_) | refine x_P (kk := ?_) | refine x_B (kk := ?_) | refine x_S (kk := ?_) | refine x_O (kk := ?_)))
            rw [ei]
            have hor : t ||| 2 ^ j < 2 ^ c.length := or_lt ht hjl
            have hrs := hbd1 (t ||| 2 ^ j)
            have hcj := hrb j (by omega)
            refine OrdA.eff rfl (fun w5 hb5 => Ops.call rfl rfl rfl rfl rfl (ih (t ||| 2 ^ j) w5 f2 (by omega) hor (Below.via hb02 hb5) (hm2.below hb5) hG2 (hO2.kp (Kp.of_below (S := fun _ => False) hb5) (fun _ _ e => e))) (fun r2 w6 hR => Ops.nil (W.endl ?_)))
            obtain ⟨rfl, hk6, f', hm6, hG6, hf6⟩ := hR
            have hk56 : Kp (fun i => i = b) w2 w6 := kpb (Kp.of_below hb5) hk6
            have hkw6 := kpb hk2 hk56
            have hO6 := hO2.kpb hk56
            have hblk6 := hblk2.kp hk56 hrb'
            have hf6' : ∀ q : Nat × Nat, q.1 < c.length - k → f' q = f q := fun q hq => by rw [hf6 q hq, hf2 q hq]
            (repeat (first | refine y_p (kk := ?_) | refine y_a (kk := ?_)))
            refine VW.Ord.nil ?_
            cases found with
            | false =>
              (repeat (first | with_reducible refine W.seq ?_ | with_reducible refine Ops.nil ?_ | with_reducible refine W.region ?_ | refine z_p (kk := ?_) | refine z_n (kk := ?_)))
              refine W.condT rfl (by first | rfl | assumption | (simp only [bnf] <;> omega) | (simp only [*, bnf]; done) | fail) ?_
              (repeat (first | with_reducible refine Ops.nil ?_ | with_reducible refine W.region ?_ | refine z_p (kk := ?_) | refine z_a (kk := ?_) | with_reducible refine W.endb ?_))
              exact W.endl ⟨_, _, ⟨⟨j + 1, _, true, f', rfl, by omega, hstep, rfl, hkw6, hblk6, hm6, hG6, hO6, hf6'⟩, by omega⟩, (by repeat (first | exact trivial | refine And.intro rfl ?_))⟩
            | true =>
              by_cases hlt : (row c ((c.length - (k + 1) : Nat) : Int)).getD j 0 + restS c g k (t ||| 2 ^ j) < best
              · rw [decide_eq_true hlt] at hstep
                (repeat (first | with_reducible refine W.seq ?_ | with_reducible refine Ops.nil ?_ | with_reducible refine W.region ?_ | refine z_p (kk := ?_) | refine z_y (kk := ?_)))
                refine W.condT rfl (by first | rfl | assumption | (simp only [bnf] <;> omega) | (simp only [*, bnf]; done) | fail) ?_
                (repeat (first | with_reducible refine Ops.nil ?_ | with_reducible refine W.region ?_ | refine z_p (kk := ?_) | refine z_a (kk := ?_) | with_reducible refine W.endb ?_))
                exact W.endl ⟨_, _, ⟨⟨j + 1, _, true, f', rfl, by omega, hstep, rfl, hkw6, hblk6, hm6, hG6, hO6, hf6'⟩, by omega⟩, (by repeat (first | exact trivial | refine And.intro rfl ?_))⟩
              · rw [decide_eq_false hlt] at hstep
                (repeat (first | with_reducible refine W.seq ?_ | with_reducible refine Ops.nil ?_ | with_reducible refine W.region ?_ | refine z_p (kk := ?_) | refine z_y (kk := ?_)))
                refine W.condF rfl (by first | rfl | assumption | (simp only [bnf] <;> omega) | (simp only [*, bnf]; done) | fail) ?_
                (repeat (first | with_reducible refine Ops.nil ?_ | with_reducible refine W.region ?_ | refine z_p (kk := ?_) | refine z_a (kk := ?_) | with_reducible refine W.skip ?_ | with_reducible refine W.endb ?_))
                exact W.endl ⟨_, _, ⟨⟨j + 1, _, true, f', rfl, by omega, hstep, rfl, hkw6, hblk6, hm6, hG6, hO6, hf6'⟩, by omega⟩, (by repeat (first | exact trivial | refine And.intro rfl ?_))⟩
        · have hjl : j = c.length := by omega
          subst hjl
          rw [hst] at hrest
          simp only at hrest
          have hf0 : f2 (c.length - (k + 1), t) = none := by rw [hf2 _ (by simp only; omega), hfp]
          (repeat (first | with_reducible refine W.region ?_ | refine z_p (kk := ?_) | refine W.exit rfl ?_ | refine z_2 (kk := ?_)))
          refine Ops.putK (p := (c.length - (k + 1), t)) keyLaw encP_inj rfl rfl rfl rfl rfl rfl rfl hkey hf0 hm2 (fun w3 hm3 hk3 hs3 => ?_)
          have hblk3 := hblk2.kp hk3 hrb'
          (repeat (first | with_reducible refine W.seq ?_ | with_reducible refine Ops.nil ?_ | with_reducible refine W.region ?_ | refine z_p (kk := ?_) | refine z_2 (kk := ?_)))
          refine Ops.lookK (p := (c.length - (k + 1), t)) keyLaw encP_inj rfl rfl rfl rfl rfl rfl rfl hkey hm3 ?_
          (repeat (first | with_reducible refine Ops.nil ?_ | refine z_p (kk := ?_)))
          refine W.fret rfl ⟨?_, kpb hk2 hk3, _, hm3, fun q v hq => ?_, fun q hq => ?_⟩
          · rw [hrest]; simp; rfl
          · replace hq : (if q = (c.length - (k + 1), t) then some best else f2 q) = some v := hq
            by_cases e : q = (c.length - (k + 1), t)
            · rw [if_pos e] at hq
              subst e
              refine ⟨by simp only; omega, ?_⟩
              simp only [hnk]
              rw [hrest]
              exact (Option.some.inj hq).symm
            · rw [if_neg e] at hq
              exact hG2 q v hq
          · have e : ¬ q = (c.length - (k + 1), t) := fun e => by rw [e] at hq; simp only at hq; omega
            show (if q = (c.length - (k + 1), t) then some best else f2 q) = f q
            rw [if_neg e]
            exact hf2 q (by omega)
end Go.Proofs.Ytehjmakiljhjdaa
namespace Go.Proofs.Ytehjmakiljhjdaa
open Go Go.RowKit Go.Proofs.Ytehjmakiljhjdaa.VW
attribute [local irreducible] W Ops OrdA VW.Ord OrdX
theorem stepJ_spec {r : List Int} {t : Nat} {F : Nat → Int} : ∀ m, ((∃ j, j < m ∧ t.testBit j = false) → ∃ j, j < m ∧ t.testBit j = false ∧ stepJ r t F m = (r.getD j 0 + F (t ||| 2 ^ j), true)) ∧ (∀ j, j < m → t.testBit j = false → (stepJ r t F m).2 = true ∧ (stepJ r t F m).1 ≤ r.getD j 0 + F (t ||| 2 ^ j))
  | 0 => ⟨fun ⟨j, h, _⟩ => by omega, fun j h => by omega⟩
  | m + 1 => by
    obtain ⟨h1, h2⟩ := stepJ_spec (r := r) (t := t) (F := F) m
    cases hm : t.testBit m with
    | true =>
      simp only [stepJ, hm, if_true]
      refine ⟨fun ⟨j, hj, hb⟩ => ?_, fun j hj hb => ?_⟩
      · have : j < m := by rcases Nat.lt_or_ge j m with h | h; exact h; have : j = m := by omega
                           subst this; rw [hm] at hb; cases hb
        obtain ⟨q, hq, hqb, e⟩ := h1 ⟨j, this, hb⟩
        exact ⟨q, by omega, hqb, e⟩
      · have : j < m := by rcases Nat.lt_or_ge j m with h | h; exact h; have : j = m := by omega
                           subst this; rw [hm] at hb; cases hb
        exact h2 j this hb
    | false =>
      simp only [stepJ, hm, Bool.false_eq_true, if_false]
      split
      · rename_i hc
        refine ⟨fun _ => ⟨m, by omega, hm, rfl⟩, fun j hj hb => ⟨rfl, ?_⟩⟩
        by_cases e : j = m
        · subst e; exact Int.le_refl _
        · obtain ⟨h3, h4⟩ := h2 j (by omega) hb
          rw [h3] at hc
          simp only [Bool.not_true, Bool.false_or, decide_eq_true_eq] at hc
          show r.getD m 0 + F (t ||| 2 ^ m) ≤ _
          omega
      · rename_i hc
        simp only [Bool.or_eq_true, decide_eq_true_eq, not_or, Bool.not_eq_true', Bool.not_eq_true] at hc
        refine ⟨fun _ => ?_, fun j hj hb => ?_⟩
        · by_cases hex : ∃ j, j < m ∧ t.testBit j = false
          · obtain ⟨q, hq, hqb, e⟩ := h1 hex
            exact ⟨q, by omega, hqb, e⟩
          · exfalso
            have : ∀ q, q ≤ m → stepJ r t F q = (0, false) := by
              intro q
              induction q with
              | zero => intro _; rfl
              | succ q ih =>
                intro hq
                have : t.testBit q = true := by
                  cases hb : t.testBit q with
                  | true => rfl
                  | false => exact absurd ⟨q, by omega, hb⟩ hex
                simp only [stepJ, this, if_true]
                exact ih (by omega)
            rw [this m (Nat.le_refl _)] at hc
            simp at hc
        · by_cases e : j = m
          · subst e
            exact ⟨by simpa using hc.1, by omega⟩
          · exact h2 j (by omega) hb
def g0 : Int → Bool := fun _ => false
/-- Hole j is in a cheapest way on. -/
def hitB (c : List (List Int)) (k t j : Nat) : Bool := !t.testBit j && (c.getD (c.length - (k + 1)) []).getD j 0 + restS c g0 k (t ||| 2 ^ j) == restS c g0 (k + 1) t
/-- The first hit from j on, among the next m. -/
def findS (p : Nat → Bool) : Nat → Nat → Nat
  | 0, j => j
  | m + 1, j => if p j then j else findS p m (j + 1)
theorem findS_spec {p : Nat → Bool} : ∀ m j, (∀ q, j ≤ q → q < findS p m j → p q = false) ∧ j ≤ findS p m j ∧ findS p m j ≤ j + m ∧ (findS p m j < j + m → p (findS p m j) = true)
  | 0, j => by simp [findS]; omega
  | m + 1, j => by
    simp only [findS]
    split
    · rename_i h
      exact ⟨fun q h1 h2 => by omega, by omega, by omega, fun _ => h⟩
    · rename_i h
      obtain ⟨h1, h2, h3, h4⟩ := findS_spec (p := p) m (j + 1)
      refine ⟨fun q hq1 hq2 => ?_, by omega, by omega, fun h => h4 (by omega)⟩
      by_cases e : q = j
      · subst e; simpa using h
      · exact h1 q (by omega) hq2
theorem findS_eq {p : Nat → Bool} {m j : Nat} (hj : j < m) (hp : p j = true) (h : ∀ q, q < j → p q = false) : findS p m 0 = j := by
  obtain ⟨h1, h2, h3, h4⟩ := findS_spec (p := p) m 0
  rcases Nat.lt_trichotomy (findS p m 0) j with h5 | h5 | h5
  · have := h4 (by omega); rw [h _ h5] at this; cases this
  · exact h5
  · have := h1 j (by omega) h5; rw [hp] at this; cases this
/-- The first assignment of the last k buttons. -/
def firstS (c : List (List Int)) : Nat → Nat → List Int
  | 0, _ => []
  | k + 1, t => (findS (hitB c k t) c.length 0 : Int) :: firstS c k (t ||| 2 ^ findS (hitB c k t) c.length 0)
/-- How many of the first n bits are set. -/
def cnt (t : Nat) : Nat → Nat
  | 0 => 0
  | n + 1 => cnt t n + if t.testBit n then 1 else 0
theorem cnt_or (t j : Nat) : ∀ n, cnt (t ||| 2 ^ j) n ≤ cnt t n + if j < n then 1 else 0
  | 0 => by simp [cnt]
  | n + 1 => by
    have h := cnt_or t j n
    simp only [cnt, Nat.testBit_or, Nat.testBit_two_pow]
    by_cases e : j = n
    · subst e
      simp only [Nat.lt_irrefl, if_false, Nat.lt_succ_self, if_true] at h ⊢
      split <;> omega
    · simp only [e, decide_false, Bool.or_false]
      split <;> split at h <;> split <;> omega
theorem cnt_free {t : Nat} : ∀ n, cnt t n < n → ∃ j, j < n ∧ t.testBit j = false
  | 0, h => by simp [cnt] at h
  | n + 1, h => by
    cases hb : t.testBit n with
    | false => exact ⟨n, by omega, hb⟩
    | true =>
      simp only [cnt, hb, if_true] at h
      obtain ⟨j, hj, e⟩ := cnt_free (t := t) n (by omega)
      exact ⟨j, by omega, e⟩
theorem cnt_zero : ∀ n, cnt 0 n = 0
  | 0 => rfl
  | n + 1 => by simp [cnt, cnt_zero n]
theorem hit_ex {c : List (List Int)} {k t : Nat} (h : ∃ j, j < c.length ∧ t.testBit j = false) : ∃ j, j < c.length ∧ hitB c k t j = true := by
  obtain ⟨j, hj, hb, e⟩ := (stepJ_spec (r := c.getD (c.length - (k + 1)) []) (t := t) (F := restS c g0 k) c.length).1 h
  refine ⟨j, hj, ?_⟩
  simp only [hitB, hb, restS, g0, Bool.false_eq_true, if_false, Bool.not_false, Bool.true_and, beq_iff_eq]
  have := congrArg Prod.fst e
  exact this.symm
theorem or_self_iff {t j : Nat} : t = t ||| 2 ^ j ↔ t.testBit j = true := by
  constructor
  · intro h
    rw [h]
    simp [Nat.testBit_or, Nat.testBit_two_pow]
  · intro h
    apply Nat.eq_of_testBit_eq
    intro i
    rw [Nat.testBit_or, Nat.testBit_two_pow]
    by_cases e : j = i
    · subst e; simp [h]
    · simp [e]
def pairV (p : Nat × Nat) : Array Value := #[.int .i64 p.1, .int .i64 p.2]
set_option maxHeartbeats 4000000 in
theorem first_c {w : World} {cv : Value} {c : List (List Int)} (hM : RowsM w cv c) (hC : Cst c) : Calls Try.prog 61 #[cv] w (Ret fun r w' => OI 3 (Value.int .i64) w w' r (firstS c c.length 0)) := by
  have hn7 := hC.n7
  have hp7 := pow7 hn7
  obtain ⟨Ac, cc, rfl⟩ := hM.sl
  refine calls_W (vs := [_]) Try.func61 rfl (by kernel_rfl) rfl ?_
  (repeat (first | with_reducible refine W.seq ?_ | with_reducible refine Ops.nil ?_ | with_reducible refine W.region ?_ | refine z_p (kk := ?_)))
  refine Ops.mkK (enc := encP) (kt := 82) rfl rfl rfl (fun w1 b hm1 hk1 hb1 hs1 => ?_)
  (repeat (first | with_reducible refine W.seq ?_ | with_reducible refine Ops.nil ?_ | with_reducible refine W.region ?_ | refine z_p (kk := ?_)))
  refine Ops.bldG rfl rfl rfl rfl rfl rfl rfl ?_
  refine Ops.alloc rfl rfl rfl rfl (fun w2 x hx => ?_)
  refine Ops.st2 rfl rfl rfl rfl rfl rfl rfl rfl hx.at_ (fun w3 hu => ?_)
  (repeat (first | with_reducible refine W.seq ?_ | with_reducible refine Ops.nil ?_ | with_reducible refine W.block ?_))
  have hbel3 : Below w.heap.size w w3 := Below.put (Below.put (Below.put (Below.refl _ _) hk1 (fun _ e => e.elim)) hx.kp (fun _ e => e.elim)) hu.kp (fun i e => by have := hx.r_eq; have := hk1.size; omega)
  have hbx : ¬ x = b := by have := hx.r_eq; have := hm1.lt; omega
  have hxw : w.heap.size ≤ x := by have := hx.r_eq; have := hk1.size; omega
  refine W.loop (fun m ρ w4 => ∃ (k t : Nat) (ov : Value) (pre : List Int) (f : Nat × Nat → Option Int), m = k ∧ k ≤ c.length ∧ t < 2 ^ c.length ∧ cnt t c.length + k ≤ c.length ∧ pre ++ firstS c k t = firstS c c.length 0 ∧ pre.length + k = c.length ∧ ρ = [(0, .slice Ac c.length cc), (3, .map (some b)), (4, ov), (5, .pointer (some ⟨x, 0, none⟩))] ∧ OI 3 (Value.int .i64) w w4 ov pre ∧ Blk w4 x (pairV (c.length - k, t)) 82 ∧ MapK Try.prog 82 encP w4 b f ∧ Good c g0 f ∧ ov.ownBlock ≠ some x ∧ ov.ownBlock ≠ some b)
    ⟨_, _, ⟨c.length, 0, _, [], fun _ => none, rfl, Nat.le_refl _, Nat.two_pow_pos _, by rw [cnt_zero]; omega, rfl, by simp, rfl, OI.nil hbel3, ?_, (hm1.kp hx.kp (fun e => e)).kp hu.kp (fun e => hbx e.symm), (fun q v h => by cases h), by simp [Value.ownBlock], by simp [Value.ownBlock]⟩, (by repeat (first | exact trivial | refine And.intro rfl ?_))⟩ ?_
  · have := hu.blk
    rw [Nat.sub_self]
    exact this
  rintro k ρ w4 ⟨_, t, ov, pre, f, rfl, hk, ht, hcnt, hpre, hlen, rfl, hO, hblk, hm, hG, hne1, hne2⟩
  have hbel4 := hO.bel
  have hblk' : Blk w4 x #[.int .i64 ((c.length - k : Nat) : Int), .int .i64 (t : Int)] 82 := hblk
  (repeat (first | with_reducible refine W.seq ?_ | with_reducible refine Ops.nil ?_ | with_reducible refine W.region ?_ | refine z_p (kk := ?_) | refine z_l (kk := ?_) | refine z_f (kk := ?_) | refine z_d (kk := ?_)))
  (first | refine W.condD rfl (fun hc => ?_) (fun hc => ?_) | refine W.condE rfl (fun hc => ?_) (fun hc => ?_) | refine W.condN rfl (fun hc => ?_) (fun hc => ?_) | refine W.cond rfl (fun hc => ?_) (fun hc => ?_))
  · obtain ⟨k, rfl⟩ : ∃ q, k = q + 1 := ⟨k - 1, by omega⟩
    (repeat (first | with_reducible refine W.seq ?_ | with_reducible refine W.region ?_ | refine z_p (kk := ?_) | with_reducible refine W.skip ?_ | with_reducible refine W.block ?_ | refine z_2 (kk := ?_)))
    refine Ops.call rfl rfl rfl rfl rfl (rest_c hM hC (by omega) (k + 1) t w4 f hk ht hbel4 hm hG (.inl ⟨rfl, rfl⟩)) (fun r5 w5 hR => ?_)
    obtain ⟨rfl, hk5, f5, hm5, hG5, _⟩ := hR
    have hbel5 := Below.put hbel4 hk5 (fun i e => by omega)
    have hO5 := hO.kp hk5 (fun i e => ⟨by omega, by rw [e]; exact hne2⟩)
    have hblk5 := hblk'.kp hk5 hbx
    have hrow : row c ((c.length - (k + 1) : Nat) : Int) = c.getD (c.length - (k + 1)) [] := by simp [row]
    have hcl := hC.len (c.length - (k + 1)) (by omega)
    rw [← hrow] at hcl
    have hrb : ∀ j, j < (row c ((c.length - (k + 1) : Nat) : Int)).length → -1000 ≤ (row c ((c.length - (k + 1) : Nat) : Int)).getD j 0 ∧ (row c ((c.length - (k + 1) : Nat) : Int)).getD j 0 ≤ 1000 := fun j hj => by rw [hrow]; exact hC.bd _ j (by omega) (by omega)
    have hbd1 := restS_bd (g := g0) hC k (by omega)
    (repeat (first | with_reducible refine W.seq ?_ | with_reducible refine Ops.nil ?_ | with_reducible refine W.region ?_ | refine z_p (kk := ?_) | with_reducible refine W.block ?_ | refine z_l (kk := ?_) | refine z_f (kk := ?_) | refine z_d (kk := ?_) | refine z_r (kk := fun _ _ _ _ => ?_)))
    rename_i A m p hsl
    refine W.loop (fun mm ρ w6 => ∃ (j : Nat) (f6 : Nat × Nat → Option Int), mm = c.length - j ∧ j ≤ c.length ∧ ρ = [(0, .slice Ac c.length cc), (3, .map (some b)), (4, ov), (5, .pointer (some ⟨x, 0, none⟩)), (6, .int .i64 (restS c g0 (k + 1) t)), (25, .slice A (row c ((c.length - (k + 1) : Nat) : Int)).length m), (26, .int .i64 (row c ((c.length - (k + 1) : Nat) : Int)).length), (27, .int .i64 j)] ∧ OI 3 (Value.int .i64) w w6 ov pre ∧ Blk w6 x #[.int .i64 ((c.length - (k + 1) : Nat) : Int), .int .i64 (t : Int)] 82 ∧ MapK Try.prog 82 encP w6 b f6 ∧ Good c g0 f6 ∧ ∀ q, q < j → hitB c k t q = false)
      ⟨_, _, ⟨0, f5, rfl, Nat.zero_le _, rfl, hO5, hblk5, hm5, hG5, fun q hq => by omega⟩, (by repeat (first | exact trivial | refine And.intro rfl ?_))⟩ ?_
    rintro mm ρ w6 ⟨j, f6, rfl, hj, rfl, hO6, hblk6, hm6, hG6, hno⟩
    have hbel6 := hO6.bel
    (repeat (first | with_reducible refine W.seq ?_ | with_reducible refine Ops.nil ?_ | with_reducible refine W.region ?_ | refine z_p (kk := ?_)))
    (first | refine W.condD rfl (fun hc => ?_) (fun hc => ?_) | refine W.condE rfl (fun hc => ?_) (fun hc => ?_) | refine W.condN rfl (fun hc => ?_) (fun hc => ?_) | refine W.cond rfl (fun hc => ?_) (fun hc => ?_))
    · have hjl : j < c.length := by omega
      have hj2 : 2 ^ j < 2 ^ c.length := Nat.pow_lt_pow_right (by omega) hjl
      have ei : ((c.length - (k + 1) : Nat) : Int) + 1 = ((c.length - k : Nat) : Int) := by omega
      have hor : t ||| 2 ^ j < 2 ^ c.length := or_lt ht hjl
      have hrs := hbd1 (t ||| 2 ^ j)
      have hcj := hrb j (by omega)
      have hst := or_self_iff (t := t) (j := j)
      (repeat (first | with_reducible refine W.seq ?_ | with_reducible refine Ops.nil ?_ | with_reducible refine W.region ?_ | refine z_p (kk := ?_) | with_reducible refine W.skip ?_ | with_reducible refine W.block ?_ | refine z_I (kk := fun _ => ?_)))
      refine W.ord (hm := rfl) 99 (fun w' => Below w6.heap.size w6 w') [(0, 1), (1, 2), (2, 1), (3, 1), (4, 2), (5, 1), (6, 1), (7, 1), (8, 1), (9, 0), (10, 0)] (by kernel_rfl) rfl (by kernel_rfl) (fun w7 k7 _ => ⟨Kp.below k7 (Nat.le_refl _) (fun _ _ e => e), ?_⟩)
      have hb7 : Below w6.heap.size w6 w7 := Kp.below k7 (Nat.le_refl _) (fun _ _ e => e)
      (repeat (first | refine y_p (kk := ?_) | refine y_a (kk := ?_) | refine y_D (kk := ?_) | refine y_P (kk := ?_) | refine y_B (kk := ?_) | refine y_S (kk := ?_) | refine y_O (kk := ?_)))
      refine VW.Ord.effF rfl (Ops.alloc rfl rfl rfl rfl (fun w8 y hy => Ops.nil (W.endl ⟨Below.put hb7 hy.kp (fun _ e => e.elim), ?_⟩)))
      have hb8 : Below w6.heap.size w6 w8 := Below.put hb7 hy.kp (fun _ e => e.elim)
      have hyw : w6.heap.size ≤ y := by have := hy.r_eq; have := hb7.size; omega
      refine VW.Ord.effF rfl (Ops.st2 rfl rfl rfl rfl rfl rfl rfl rfl hy.at_ (fun w9 hu9 => Ops.nil (W.endl ⟨Below.put hb8 hu9.kp (fun i e => by omega), ?_⟩)))
      have hb9 : Below w6.heap.size w6 w9 := Below.put hb8 hu9.kp (fun i e => by omega)
      refine VW.Ord.nil ?_
      have hblky := hu9.blk
      rw [ei] at hblky
      have hblk9 := hblk6.kp (Kp.of_below (S := fun _ => False) hb9) (fun e => e)
      have hm9 := hm6.below hb9
      have hO9 := hO6.below hb9
      have hxy : ¬ x = y := by have := hblk6.lt; omega
      have hby : ¬ y = b := by have := hm6.lt; omega
      cases hbit : t.testBit j with
      | true =>
        have hor2 : t ||| 2 ^ j = t := (hst.2 hbit).symm
        (repeat (first | with_reducible refine W.seq ?_ | with_reducible refine Ops.nil ?_ | with_reducible refine W.region ?_ | refine z_p (kk := ?_) | refine z_n (kk := ?_) | refine z_f (kk := ?_) | refine z_d (kk := ?_) | refine z_g (kk := ?_)))
        refine W.condF rfl (by first | rfl | assumption | (simp only [bnf] <;> omega) | (simp only [*, bnf]; done) | fail) ?_
        (repeat (first | with_reducible refine Ops.nil ?_ | with_reducible refine W.region ?_ | refine z_p (kk := ?_) | refine z_a (kk := ?_) | with_reducible refine W.skip ?_ | with_reducible refine W.endb ?_))
        refine W.endl ⟨_, _, ⟨⟨j + 1, f6, rfl, by omega, rfl, hO9, hblk9, hm9, hG6, fun q hq => ?_⟩, by omega⟩, (by repeat (first | exact trivial | refine And.intro rfl ?_))⟩
        by_cases e : q = j
        · subst e; simp [hitB, hbit]
        · exact hno q (by omega)
      | false =>
        have hor2 : ¬ t ||| 2 ^ j = t := fun e => by have := hst.1 e.symm; rw [hbit] at this; cases this
        (repeat (first | with_reducible refine W.seq ?_ | with_reducible refine W.region ?_ | refine z_p (kk := ?_) | refine z_y (kk := ?_) | refine z_f (kk := ?_) | refine z_d (kk := ?_) | refine z_2 (kk := ?_) | refine z_h (kk := ?_)))
        refine Ops.call rfl rfl rfl rfl rfl (rest_c hM hC (by omega) k (t ||| 2 ^ j) w9 f6 (by omega) hor hO9.bel hm9 hG6 (.inl ⟨rfl, rfl⟩)) (fun r5 w10 hR => ?_)
        obtain ⟨rfl, hk10, f10, hm10, hG10, _⟩ := hR
        have hO10 := hO9.kp hk10 (fun i e => ⟨by omega, by rw [e]; exact hne2⟩)
        have hblk10 := hblk9.kp hk10 hbx
        have hblky10 := hblky.kp hk10 hby
        by_cases hh : (row c ((c.length - (k + 1) : Nat) : Int)).getD j 0 + restS c g0 k (t ||| 2 ^ j) = restS c g0 (k + 1) t
        · have hhit : hitB c k t j = true := by
            rw [hrow] at hh
            simp only [hitB, hbit, hh]; simp
          have hfs : findS (hitB c k t) c.length 0 = j := findS_eq hjl hhit hno
          (repeat (first | with_reducible refine Ops.nil ?_ | refine z_p (kk := ?_) | refine z_a (kk := ?_) | refine z_y (kk := ?_)))
          refine W.condT rfl (by first | rfl | assumption | (simp only [bnf] <;> omega) | (simp only [*, bnf]; done) | fail) ?_
          (repeat (first | with_reducible refine W.seq ?_ | with_reducible refine W.region ?_ | refine z_p (kk := ?_)))
          refine Ops.pushO (enc := Value.int .i64) (u := (j : Int)) rfl rfl rfl rfl rfl rfl rfl rfl rfl rfl rfl rfl (fun _ => rfl) rfl hO10 (by omega) (fun lv' p w11 hO11 k11 hn11 => ?_)
          have hblk11 := hblk10.kp k11 hne1
          have hblky11 := hblky10.kp k11 (fun e => by have := (hO9.own.lt y e).2; have := (hO6.own.lt y e).2; omega)
          (repeat (first | with_reducible refine W.seq ?_ | with_reducible refine Ops.nil ?_ | with_reducible refine W.region ?_ | refine z_p (kk := ?_) | refine z_2 (kk := ?_)))
          refine Ops.st2 rfl rfl rfl rfl rfl rfl rfl rfl hblk11 (fun w12 hu12 => ?_)
          have hOx : lv'.ownBlock ≠ some x := fun e => by
            rcases hn11 x e with e2 | e2
            · exact hne1 e2
            · have := hblk10.lt; omega
          have hOb : lv'.ownBlock ≠ some b := fun e => by
            rcases hn11 b e with e2 | e2
            · exact hne2 e2
            · have := hm10.lt; omega
          have hO12 := hO11.kp hu12.kp (fun i e => ⟨by omega, by rw [e]; exact hOx⟩)
          (repeat (first | with_reducible refine Ops.nil ?_ | with_reducible refine W.endb ?_ | refine W.exit rfl ?_))
          refine W.endl ⟨_, _, ⟨⟨k, t ||| 2 ^ j, lv', pre ++ [(j : Int)], f10, rfl, by omega, hor, ?_, ?_, by simp; omega, rfl, hO12, hu12.blk, (hm10.kp k11 hne2).kp hu12.kp (fun e => hbx e.symm), hG10, hOx, hOb⟩, by omega⟩, (by repeat (first | exact trivial | refine And.intro rfl ?_))⟩
          · have := cnt_or t j c.length
            rw [if_pos hjl] at this
            omega
          · rw [← hpre, firstS, hfs]
            simp
        · (repeat (first | with_reducible refine Ops.nil ?_ | refine z_p (kk := ?_) | refine z_a (kk := ?_) | refine z_y (kk := ?_)))
          refine W.condF rfl (by first | rfl | assumption | (simp only [bnf] <;> omega) | (simp only [*, bnf]; done) | fail) ?_
          (repeat (first | with_reducible refine Ops.nil ?_ | with_reducible refine W.region ?_ | refine z_p (kk := ?_) | refine z_a (kk := ?_) | with_reducible refine W.skip ?_ | with_reducible refine W.endb ?_))
          refine W.endl ⟨_, _, ⟨⟨j + 1, f10, rfl, by omega, rfl, hO10, hblk10, hm10, hG10, fun q hq => ?_⟩, by omega⟩, (by repeat (first | exact trivial | refine And.intro rfl ?_))⟩
          by_cases e : q = j
          · subst e
            rw [hrow] at hh
            simp only [hitB, hbit]
            simpa using hh
          · exact hno q (by omega)
    · exfalso
      have hjl : j = c.length := by omega
      subst hjl
      obtain ⟨q, hq, hqh⟩ := hit_ex (c := c) (k := k) (t := t) (cnt_free _ (by omega))
      rw [hno q hq] at hqh
      cases hqh
  · have hk0 : k = 0 := by omega
    subst hk0
    rw [firstS, List.append_nil] at hpre
    subst hpre
    (repeat (first | with_reducible refine W.seq ?_ | with_reducible refine Ops.nil ?_ | with_reducible refine W.region ?_ | refine z_p (kk := ?_) | refine W.exit rfl ?_))
    exact W.fret rfl hO
end Go.Proofs.Ytehjmakiljhjdaa
namespace Go.Proofs.Ytehjmakiljhjdaa
open Go Go.RowKit Go.Proofs.Ytehjmakiljhjdaa.VW
attribute [local irreducible] W Ops OrdA VW.Ord OrdX
theorem findS_lt {p : Nat → Bool} {n : Nat} (h : ∃ j, j < n ∧ p j = true) : findS p n 0 < n := by
  obtain ⟨j, hj, hp⟩ := h
  obtain ⟨h1, h2, h3, h4⟩ := findS_spec (p := p) n 0
  rcases Nat.lt_or_ge (findS p n 0) n with h | h
  · exact h
  · have := h1 j (by omega) (by omega); rw [hp] at this; cases this
/-- The first assignment puts every button somewhere, no two into one hole. -/
theorem firstS_asg {c : List (List Int)} : ∀ k t, cnt t c.length + k ≤ c.length → (firstS c k t).length = k ∧ (∀ i, i < k → ∃ j : Nat, (firstS c k t).getD i 0 = j ∧ j < c.length ∧ t.testBit j = false) ∧ ∀ i, i < k → ∀ q, q < i → (firstS c k t).getD q 0 ≠ (firstS c k t).getD i 0
  | 0, t, h => by simp [firstS]
  | k + 1, t, h => by
    obtain ⟨j, hj, hjh⟩ := hit_ex (c := c) (k := k) (t := t) (cnt_free _ (by omega))
    have hlt := findS_lt ⟨j, hj, hjh⟩
    have hhit := (findS_spec (p := hitB c k t) c.length 0).2.2.2 (by omega)
    have hbit : t.testBit (findS (hitB c k t) c.length 0) = false := by
      simp only [hitB, Bool.and_eq_true, Bool.not_eq_true'] at hhit
      exact hhit.1
    have hc := cnt_or t (findS (hitB c k t) c.length 0) c.length
    rw [if_pos hlt] at hc
    obtain ⟨h1, h2, h3⟩ := firstS_asg (c := c) k (t ||| 2 ^ findS (hitB c k t) c.length 0) (by omega)
    have hsub : ∀ j, (t ||| 2 ^ findS (hitB c k t) c.length 0).testBit j = false → t.testBit j = false ∧ j ≠ findS (hitB c k t) c.length 0 := fun j hj => by
      rw [Nat.testBit_or, Nat.testBit_two_pow, Bool.or_eq_false_iff] at hj
      exact ⟨hj.1, fun e => by have := hj.2; simp [e] at this⟩
    simp only [firstS]
    refine ⟨by simp [h1], fun i hi => ?_, fun i hi q hq => ?_⟩
    · cases i with
      | zero => exact ⟨_, rfl, hlt, hbit⟩
      | succ i =>
        obtain ⟨j, e, hj, hjb⟩ := h2 i (by omega)
        exact ⟨j, by simpa using e, hj, (hsub j hjb).1⟩
    · cases i with
      | zero => omega
      | succ i =>
        obtain ⟨j, e, hj, hjb⟩ := h2 i (by omega)
        cases q with
        | zero =>
          simp only [List.getD_cons_zero, List.getD_cons_succ]
          rw [e]
          have := (hsub j hjb).2
          omega
        | succ q =>
          simp only [List.getD_cons_succ]
          exact h3 i (by omega) q (by omega)
theorem firstS_Asg {c : List (List Int)} : Asg (firstS c c.length 0) c.length := by
  obtain ⟨h1, h2, h3⟩ := firstS_asg (c := c) c.length 0 (by rw [cnt_zero]; omega)
  refine ⟨h1, fun i hi => ⟨?_, h3 i (by omega)⟩⟩
  obtain ⟨j, e, hj, _⟩ := h2 i (by omega)
  omega
theorem rest0_c {w0 w : World} {cv ov : Value} {c : List (List Int)} {g : Int → Bool} {b t : Nat} (hM : RowsM w0 cv c) (hC : Cst c) (hb0 : w0.heap.size ≤ b) (ht : t < 2 ^ c.length) (hbel : Below w0.heap.size w0 w) (hm : MapK Try.prog 82 encP w b (fun _ => none)) (hO : OutM w ov g b) :
    Calls Try.prog 62 #[cv, .map (some b), ov, .agg #[.int .i64 0, .int .i64 (t : Int)]] w (Ret fun r w' => r = .int .i64 (restS c g c.length t) ∧ Kp (fun i => i = b) w w') := by
  have h := rest_c hM hC hb0 c.length t w (fun _ => none) (Nat.le_refl _) ht hbel hm (fun q v h => by cases h) hO
  rw [Nat.sub_self] at h
  exact h.mono fun e w' ⟨v, he, hv, hk, _⟩ => ⟨v, he, hv, hk⟩
/-- The payments of the first buttons. -/
def paysS (c : List (List Int)) (l : List Int) : Nat → List Int
  | 0 => []
  | i + 1 => paysS c l i ++ [totP c l l.length - (c.getD i []).getD (l.getD i 0).toNat 0 - restS c (fun k => false || k == (i : Int)) c.length 0]
theorem paysS_len {c : List (List Int)} {l : List Int} : ∀ i, (paysS c l i).length = i
  | 0 => rfl
  | i + 1 => by simp [paysS, paysS_len i]
set_option maxHeartbeats 4000000 in
theorem pays_c {w : World} {cv : Value} {c : List (List Int)} (hM : RowsM w cv c) : Calls Try.prog 32 #[cv] w (Ret fun r w' => (costsB c = false → r = .tuple #[.slice none 0 0, .int .i64 2] ∧ Below w.heap.size w w') ∧ (costsB c = true → ∃ v, r = .tuple #[v, .int .i64 0] ∧ OI 3 (Value.int .i64) w w' v (paysS c (firstS c c.length 0) c.length))) := by
  obtain ⟨Ac, cc, rfl⟩ := hM.sl
  refine calls_W (vs := [_]) Try.func32 rfl (by kernel_rfl) rfl ?_
  (repeat (first | with_reducible refine W.seq ?_ | with_reducible refine Ops.nil ?_ | with_reducible refine W.region ?_ | refine z_p (kk := ?_)))
  refine Ops.call rfl rfl rfl rfl rfl (areCosts_c hM) (fun r w1 hR => ?_)
  obtain ⟨rfl, hb1⟩ := hR
  cases hcB : costsB c with
  | false =>
    (repeat (first | with_reducible refine Ops.nil ?_ | refine z_p (kk := ?_)))
    refine W.condT rfl (by first | rfl | assumption | (simp only [bnf] <;> omega) | (simp only [*, bnf]; done) | fail) ?_
    (repeat (first | with_reducible refine W.seq ?_ | with_reducible refine Ops.nil ?_ | with_reducible refine W.region ?_ | refine z_p (kk := ?_)))
    exact W.fret rfl ⟨fun _ => ⟨rfl, hb1⟩, fun h => by cases h⟩
  | true =>
    have hC := costs_iff.1 hcB
    have hn7 := hC.n7
    obtain ⟨hlen, hasg⟩ := firstS_Asg (c := c)
    have htb := totP_bd hC (fun i hi => (hasg i hi).1) (by omega) (firstS c c.length 0).length (Nat.le_refl _)
    (repeat (first | with_reducible refine Ops.nil ?_ | refine z_p (kk := ?_)))
    refine W.condF rfl (by first | rfl | assumption | (simp only [bnf] <;> omega) | (simp only [*, bnf]; done) | fail) ?_
    (repeat (first | with_reducible refine W.seq ?_ | with_reducible refine W.region ?_ | refine z_p (kk := ?_) | with_reducible refine W.skip ?_))
    refine Ops.call rfl rfl rfl rfl rfl (first_c (hM.below hb1) hC) (fun lv w2 hO2 => ?_)
    obtain ⟨Al, cl, rfl⟩ := hO2.sh
    have hb2 := Below.via hb1 hO2.bel
    have hsl2 : SlI w2 (.slice Al (firstS c c.length 0).length cl) (firstS c c.length 0) := hO2.sl
    (repeat (first | with_reducible refine W.seq ?_ | with_reducible refine Ops.nil ?_ | with_reducible refine W.region ?_ | refine z_p (kk := ?_) | with_reducible refine W.block ?_ | refine z_l (kk := ?_)))
    refine W.loop (fun m ρ w3 => ∃ (i : Nat) (ov : Value), m = c.length - i ∧ i ≤ c.length ∧ ρ = [(0, .slice Ac c.length cc), (4, .slice Al (firstS c c.length 0).length cl), (5, ov), (14, .slice Al (firstS c c.length 0).length cl), (15, .int .i64 (firstS c c.length 0).length), (16, .int .i64 i)] ∧ Below w2.heap.size w2 w3 ∧ OI 3 (Value.int .i64) w2 w3 ov (paysS c (firstS c c.length 0) i))
      ⟨_, _, ⟨0, _, rfl, Nat.zero_le _, rfl, Below.refl _ _, OI.nil (Below.refl _ _)⟩, (by repeat (first | exact trivial | refine And.intro rfl ?_))⟩ ?_
    rintro m ρ w3 ⟨i, ov, rfl, hi, rfl, hb3, hO3⟩
    have hb03 := Below.via hb2 hb3
    (repeat (first | with_reducible refine W.seq ?_ | with_reducible refine Ops.nil ?_ | with_reducible refine W.region ?_ | refine z_p (kk := ?_)))
    (first | refine W.condD rfl (fun hc => ?_) (fun hc => ?_) | refine W.condE rfl (fun hc => ?_) (fun hc => ?_) | refine W.condN rfl (fun hc => ?_) (fun hc => ?_) | refine W.cond rfl (fun hc => ?_) (fun hc => ?_))
    · have hil : i < c.length := by omega
      have hli := (hasg i (by omega)).1
      (repeat (first | with_reducible refine W.seq ?_ | with_reducible refine Ops.nil ?_ | with_reducible refine W.region ?_ | refine z_p (kk := ?_) | with_reducible refine W.skip ?_ | with_reducible refine W.block ?_ | refine z_I (kk := fun _ => ?_)))
      refine Ops.mkK (enc := encP) (kt := 82) rfl rfl rfl (fun w4 b hm4 hk4 hb4 hs4 => ?_)
      refine Ops.mkM rfl rfl rfl (fun w5 b5 hm5 hk5 hb5 => ?_)
      (repeat (first | refine z_p (kk := ?_)))
      refine Ops.ins rfl rfl rfl rfl rfl rfl rfl rfl hm5 (fun w6 hm6 hk6 hs6 => ?_)
      (repeat (first | refine z_p (kk := ?_)))
      refine Ops.bldG rfl rfl rfl rfl rfl rfl rfl ?_
      have h3s := hb03.size
      have h4s := hk4.size
      have h5s := hk5.size
      have hb06 : Below w.heap.size w w6 := Below.put (Below.put (Below.put hb03 hk4 (fun _ e => e.elim)) hk5 (fun _ e => e.elim)) hk6 (fun i e => by omega)
      have hb36 : Below w3.heap.size w3 w6 := Below.put (Below.put (Below.put (Below.refl _ _) hk4 (fun _ e => e.elim)) hk5 (fun _ e => e.elim)) hk6 (fun i e => by omega)
      refine Ops.call rfl rfl rfl rfl rfl (rest0_c (t := 0) (g := fun k => false || k == (i : Int)) hM hC (by omega) (Nat.two_pow_pos _) hb06 ((hm4.kp hk5 (fun e => e)).kp hk6 (fun e => by omega)) (.inr ⟨b5, rfl, by omega, hm6⟩)) (fun r7 w7 hR => ?_)
      obtain ⟨rfl, hk7⟩ := hR
      have hb07 : Below w.heap.size w w7 := Below.put hb06 hk7 (fun i e => by omega)
      have hb37 : Below w3.heap.size w3 w7 := Below.put hb36 hk7 (fun i e => by omega)
      have hO7 := hO3.below hb37
      have hb27 := hO7.bel
      have hrs := restS_bd (g := fun k => false || k == (i : Int)) hC c.length (Nat.le_refl _) 0
      have hrow : row c (i : Int) = c.getD i [] := by simp [row]
      have hcl := hC.len i (by omega)
      have hcb := hC.bd i ((firstS c c.length 0).getD i 0).toNat (by omega) (by omega)
      rw [← hrow] at hcl hcb
      (repeat (first | with_reducible refine Ops.nil ?_ | refine z_p (kk := ?_)))
      refine W.ordA 14 [(0, 1), (1, 1), (2, 1), (3, 2), (4, 1), (5, 1), (6, 1), (7, 2), (8, 1), (9, 1), (10, 2), (11, 1), (12, 1), (13, 1), (14, 0), (15, 0), (16, 1)] rfl (by kernel_rfl) rfl (by kernel_rfl) (fun _ _ _ h => h) ?_
      (repeat (first | refine x_p (kk := ?_)))
      refine OrdA.call rfl rfl rfl rfl rfl rfl rfl (v := .int .i64 (totP c (firstS c c.length 0) (firstS c c.length 0).length)) (fun w' hw' => (total_c (hM.below (Below.via hb07 hw')) hC (Sl.below hsl2 (Below.via hb27 hw')) (fun i hi => (hasg i hi).1) (by omega)).mono fun e w'' ⟨v, he, hv⟩ => ⟨v, he, hv.1, by rw [hv.2]; exact hw'⟩) ?_
      (repeat (first | refine x_p (kk := ?_) | refine x_a (kk := ?_) | refine x_K (kk := fun _ => ?_) | refine x_r (kk := fun _ _ _ _ => ?_)))
      refine OrdA.tail (fun w8 hb8 => ?_)
      have hO8 := hO7.below hb8
      have hpl : (paysS c (firstS c c.length 0) i).length = i := paysS_len i
      refine VW.Ord.pushO (enc := Value.int .i64) (u := totP c (firstS c c.length 0) (firstS c c.length 0).length - (row c (i : Int)).getD ((firstS c c.length 0).getD i 0).toNat 0 - restS c (fun k => false || k == (i : Int)) c.length 0) rfl rfl rfl rfl rfl rfl rfl rfl rfl rfl rfl rfl rfl rfl (fun _ => rfl) rfl hO8 (by omega) (fun _ _ _ _ _ _ => trivial) trivial (fun lv' p w9 _ hO9 k9 hn9 => ?_)
      (repeat (first | refine y_p (kk := ?_)))
      refine VW.Ord.nil ?_
      (repeat (first | with_reducible refine Ops.nil ?_ | with_reducible refine W.region ?_ | refine z_p (kk := ?_) | refine z_a (kk := ?_) | with_reducible refine W.endb ?_))
      refine W.endl ⟨_, _, ⟨⟨i + 1, lv', rfl, by omega, rfl, hO9.bel, ?_⟩, by omega⟩, (by repeat (first | exact trivial | refine And.intro rfl ?_))⟩
      simp only [paysS, ← hrow]
      exact hO9
    · have hil : i = c.length := by omega
      subst hil
      (repeat (first | with_reducible refine W.seq ?_ | with_reducible refine Ops.nil ?_ | with_reducible refine W.region ?_ | refine z_p (kk := ?_) | refine W.exit rfl ?_))
      exact W.fret rfl ⟨fun h => by (cases h), fun _ => ⟨ov, rfl, (hO3.up hO2.bel).up hb1⟩⟩
end Go.Proofs.Ytehjmakiljhjdaa
