/- A part of the walk: what this seat's statements share. -/
import Derived.Test.YtehjmakiljhjdaaZG12
import Derived.Test.YtehjmakiljhjdaaZG9
import Derived.Test.YtehjmakiljhjdaaZG8
import Derived.Test.YtehjmakiljhjdaaZG10
import Derived.Test.YtehjmakiljhjdaaZG6
set_option linter.unusedVariables false
set_option linter.unusedSimpArgs false
set_option linter.unusedSectionVars false
namespace Go.Proofs.Ytehjmakiljhjdaa
open Go Go.RowKit Go.Proofs.Ytehjmakiljhjdaa.VW
attribute [local irreducible] W Ops OrdA VW.Ord OrdX
/-- Where a number stands first, or -1. -/
def IxP (xs : List Int) (x k : Int) : Prop := (k = -1 ∧ ¬ x ∈ xs) ∨ (∃ q : Nat, k = q ∧ q < xs.length ∧ xs.getD q 0 = x ∧ ∀ p, p < q → xs.getD p 0 ≠ x)
theorem index2_c {w : World} {v : Value} {xs : List Int} {x : Int} (h : SlI w v xs) : Calls Try.prog 59 #[v, .int .i64 x] w (Ret fun r w' => (∃ k : Int, r = .int .i64 k ∧ IxP xs x k) ∧ w' = w) := by
  have hl := Sl.len h
  obtain ⟨A, c, rfl⟩ := Sl.shape h
  refine calls_W (vs := [_, _]) Try.func59 rfl (by kernel_rfl) rfl ?_
  (repeat (first | with_reducible refine W.seq ?_ | with_reducible refine Ops.nil ?_ | with_reducible refine W.region ?_ | refine z_p (kk := ?_) | with_reducible refine W.block ?_ | refine z_l (kk := ?_)))
  refine W.loop (fun m ρ w1 => ∃ (i : Nat), m = xs.length - i ∧ i ≤ xs.length ∧ ρ = [(0, .slice A xs.length c), (1, .int .i64 x), (7, .int .i64 xs.length), (8, .int .i64 i)] ∧ w1 = w ∧ ∀ p, p < i → xs.getD p 0 ≠ x)
    ⟨_, _, ⟨0, rfl, Nat.zero_le _, rfl, rfl, fun p hp => by omega⟩, (by repeat (first | exact trivial | refine And.intro rfl ?_))⟩ ?_
  rintro m ρ w1 ⟨i, rfl, hi, rfl, rfl, hno⟩
  (repeat (first | with_reducible refine W.seq ?_ | with_reducible refine Ops.nil ?_ | with_reducible refine W.region ?_ | refine z_p (kk := ?_)))
  (first | refine W.condD rfl (fun hc => ?_) (fun hc => ?_) | refine W.condE rfl (fun hc => ?_) (fun hc => ?_) | refine W.condN rfl (fun hc => ?_) (fun hc => ?_) | refine W.cond rfl (fun hc => ?_) (fun hc => ?_))
  · have hil : i < xs.length := by omega
    by_cases e : x = xs.getD i 0
    · (repeat (first | with_reducible refine W.seq ?_ | with_reducible refine Ops.nil ?_ | with_reducible refine W.region ?_ | refine z_p (kk := ?_) | with_reducible refine W.skip ?_ | with_reducible refine W.block ?_ | refine z_I (kk := fun _ => ?_)))
      refine W.condT rfl (by first | rfl | assumption | (simp only [bnf] <;> omega) | (simp only [*, bnf]; done) | fail) ?_
      (repeat (first | with_reducible refine W.seq ?_ | with_reducible refine Ops.nil ?_ | with_reducible refine W.region ?_ | refine z_p (kk := ?_)))
      exact W.fret rfl ⟨⟨i, rfl, .inr ⟨i, rfl, hil, e.symm, hno⟩⟩, rfl⟩
    · (repeat (first | with_reducible refine W.seq ?_ | with_reducible refine Ops.nil ?_ | with_reducible refine W.region ?_ | refine z_p (kk := ?_) | with_reducible refine W.skip ?_ | with_reducible refine W.block ?_ | refine z_I (kk := fun _ => ?_)))
      refine W.condF rfl (by first | rfl | assumption | (simp only [bnf] <;> omega) | (simp only [*, bnf]; done) | fail) ?_
      (repeat (first | with_reducible refine Ops.nil ?_ | with_reducible refine W.region ?_ | refine z_p (kk := ?_) | refine z_a (kk := ?_) | with_reducible refine W.skip ?_ | with_reducible refine W.endb ?_))
      exact W.endl ⟨_, _, ⟨⟨i + 1, rfl, by omega, rfl, rfl, fun p hp => by
        by_cases e2 : p = i
        · rw [e2]; exact fun e3 => e e3.symm
        · exact hno p (by omega)⟩, by omega⟩, (by repeat (first | exact trivial | refine And.intro rfl ?_))⟩
  · have hil : i = xs.length := by omega
    subst hil
    (repeat (first | with_reducible refine W.seq ?_ | with_reducible refine Ops.nil ?_ | with_reducible refine W.region ?_ | refine z_p (kk := ?_) | refine W.exit rfl ?_))
    refine W.fret rfl ⟨⟨-1, rfl, .inl ⟨rfl, fun hm => ?_⟩⟩, rfl⟩
    obtain ⟨q, hq, e⟩ := mem_getDI hm
    exact hno q hq e
theorem IxP.fix {r : List Int} {k : Int} (h : IxP r 0 k) : fixV r r.length = if 0 ∈ r.drop (k + 1).toNat then -1 else k := by
  rcases h with ⟨rfl, hn⟩ | ⟨q, rfl, hq, hz, hb⟩
  · rw [fixV_none (fun p hp e => hn (e ▸ getD_memI hp)), if_neg]
    simpa using hn
  · rw [show ((q : Int) + 1).toNat = q + 1 by omega]
    by_cases hm : 0 ∈ r.drop (q + 1)
    · rw [if_pos hm]
      obtain ⟨p, hp, e⟩ := mem_getDI hm
      rw [List.length_drop] at hp
      refine fixV_many (k := q) (q := q + 1 + p) (by omega) (by omega) hz ?_
      have e2 : r.getD (q + 1 + p) 0 = (r.drop (q + 1)).getD p 0 := by simp [List.getD_eq_getElem?_getD, List.getElem?_drop]
      rw [e2]
      exact e
    · rw [if_neg hm]
      refine fixV_one hq hz (fun p hp e => hb p hp e) (fun p h1 h2 e => hm ?_)
      have : (r.drop (q + 1)).getD (p - (q + 1)) 0 = 0 := by
        have e2 : (r.drop (q + 1)).getD (p - (q + 1)) 0 = r.getD p 0 := by
          simp only [List.getD_eq_getElem?_getD, List.getElem?_drop]
          rw [show q + 1 + (p - (q + 1)) = p by omega]
        rw [e2]
        exact e
      rw [← this]
      exact getD_memI (by rw [List.length_drop]; omega)
/-- The fixed holes of a table of slacks. -/
def fixS (s : List (List Int)) (m : Nat) : List Int := fl m fun i => fixV (s.getD i []) (s.getD i []).length
theorem fixS_succ (s : List (List Int)) (m : Nat) : fixS s (m + 1) = fixS s m ++ [fixV (s.getD m []) (s.getD m []).length] := by simp [fixS, fl, List.range_succ]
set_option maxHeartbeats 2000000 in
theorem Fixed_c {w : World} {cv : Value} {c : List (List Int)} (hM : RowsM w cv c) : Calls Try.prog 31 #[cv] w (Ret fun r w' => Below w.heap.size w w' ∧ (costsB c = false → r = .tuple #[.slice none 0 0, .int .i64 2]) ∧ (costsB c = true → ∃ v, r = .tuple #[v, .int .i64 0] ∧ OI 3 (Value.int .i64) w w' v (fixS (slackS c) c.length))) := by
  obtain ⟨Ac, cc, rfl⟩ := hM.sl
  refine calls_W (vs := [_]) Try.func31 rfl (by kernel_rfl) rfl ?_
  (repeat (first | with_reducible refine W.seq ?_ | with_reducible refine Ops.nil ?_ | with_reducible refine W.region ?_ | refine z_p (kk := ?_)))
  refine Ops.call rfl rfl rfl rfl rfl (areCosts_c hM) (fun r w1 hR => ?_)
  obtain ⟨rfl, hb1⟩ := hR
  cases hc : costsB c with
  | false =>
    (repeat (first | with_reducible refine Ops.nil ?_ | refine z_p (kk := ?_)))
    refine W.condT rfl (by first | rfl | assumption | (simp only [bnf] <;> omega) | (simp only [*, bnf]; done) | fail) ?_
    (repeat (first | with_reducible refine W.seq ?_ | with_reducible refine Ops.nil ?_ | with_reducible refine W.region ?_ | refine z_p (kk := ?_)))
    exact W.fret rfl ⟨hb1, fun _ => rfl, fun h => (by cases h)⟩
  | true =>
    have hC := costs_iff.1 hc
    have hn7 := hC.n7
    (repeat (first | with_reducible refine Ops.nil ?_ | refine z_p (kk := ?_)))
    refine W.condF rfl (by first | rfl | assumption | (simp only [bnf] <;> omega) | (simp only [*, bnf]; done) | fail) ?_
    (repeat (first | with_reducible refine W.seq ?_ | with_reducible refine Ops.nil ?_ | with_reducible refine W.region ?_ | refine z_p (kk := ?_) | with_reducible refine W.skip ?_))
    refine Ops.call rfl rfl rfl rfl rfl (slack_c (hM.below hb1) hC) (fun r w2 hR => ?_)
    obtain ⟨cvs, hR⟩ := hR
    have hb2 := Below.via hb1 hR.o.bel
    have hA2 : ArgR w2 r (slackS c) := hR.argR
    have hsl : (slackS c).length = c.length := by simp [slackS]
    have hrl : ∀ i : Nat, i < c.length → (row (slackS c) i).length = c.length := fun i hi => by simp [row, slackS, List.getD_eq_getElem?_getD, hi, slRow_len]
    generalize slackS c = s at *
    clear hR
    obtain ⟨As, cs, rfl⟩ := hA2.1.sl
    (repeat (first | with_reducible refine Ops.nil ?_ | refine z_p (kk := ?_) | with_reducible refine W.block ?_ | refine z_l (kk := ?_)))
    refine W.loop (fun m ρ w3 => ∃ (i : Nat) (ov : Value), m = s.length - i ∧ i ≤ s.length ∧ ρ = [(4, ov), (12, .slice As s.length cs), (13, .int .i64 s.length), (14, .int .i64 i)] ∧ OI 3 (Value.int .i64) w2 w3 ov (fixS s i))
      ⟨_, _, ⟨0, _, rfl, Nat.zero_le _, rfl, OI.nil (Below.refl _ _)⟩, (by repeat (first | exact trivial | refine And.intro rfl ?_))⟩ ?_
    rintro m ρ w3 ⟨i, ov, rfl, hi, rfl, hO⟩
    have hb3 := hO.bel
    have hfl : (fixS s i).length = i := fl_len _ _
    (repeat (first | with_reducible refine W.seq ?_ | with_reducible refine Ops.nil ?_ | with_reducible refine W.region ?_ | refine z_p (kk := ?_)))
    (first | refine W.condD rfl (fun hc => ?_) (fun hc => ?_) | refine W.condE rfl (fun hc => ?_) (fun hc => ?_) | refine W.condN rfl (fun hc => ?_) (fun hc => ?_) | refine W.cond rfl (fun hc => ?_) (fun hc => ?_))
    · have hil : i < s.length := by omega
      have hri := hrl i (by omega)
      (repeat (first | with_reducible refine W.seq ?_ | with_reducible refine W.region ?_ | with_reducible refine W.skip ?_ | with_reducible refine W.block ?_))
      refine z_R (kk := fun A' m' p hsl2 hcap => ?_)
      have hsl3 := Sl.below hsl2 hb3
      have hrow : row s (i : Int) = s.getD i [] := by simp [row]
      (repeat (first | with_reducible refine W.seq ?_ | with_reducible refine Ops.nil ?_ | with_reducible refine W.region ?_ | refine z_p (kk := ?_)))
      refine Ops.call rfl rfl rfl rfl rfl (index2_c hsl3) (fun r w4 hR => ?_)
      obtain ⟨⟨k, rfl, hk⟩, rfl⟩ := hR
      have hkb : -1 ≤ k ∧ k < (row s (i : Int)).length := by
        rcases hk with ⟨rfl, _⟩ | ⟨q, rfl, hq, _⟩ <;> omega
      have hfx := hk.fix
      (repeat (first | with_reducible refine W.seq ?_ | with_reducible refine Ops.nil ?_ | with_reducible refine W.region ?_ | refine z_p (kk := ?_) | refine z_a (kk := ?_)))
      refine Ops.slL rfl rfl rfl rfl rfl rfl rfl (by omega) (by omega) hcap (fun A2 c2 hA2 => ?_)
      skip
      refine Ops.call rfl rfl rfl rfl rfl (contains_c (sl_drop (c' := c2) hsl3 hA2)) (fun r w5 hR => ?_)
      obtain ⟨rfl, rfl⟩ := hR
      by_cases hm : 0 ∈ (row s (i : Int)).drop (k + 1).toNat
      · rw [if_pos hm] at hfx
        rw [decide_eq_true hm]
        (repeat (first | with_reducible refine Ops.nil ?_))
        refine W.condT rfl (by first | rfl | assumption | (simp only [bnf] <;> omega) | (simp only [*, bnf]; done) | fail) ?_
        (repeat (first | with_reducible refine Ops.nil ?_ | with_reducible refine W.region ?_ | refine z_p (kk := ?_)))
        refine Ops.pushO (enc := Value.int .i64) (u := -1) rfl rfl rfl rfl rfl rfl rfl rfl rfl rfl rfl rfl (fun _ => rfl) rfl hO (by omega) (fun lv' p w6 hO6 k6 hn6 => ?_)
        rw [← hfx, hrow, ← fixS_succ] at hO6
        (repeat (first | with_reducible refine Ops.nil ?_ | with_reducible refine W.region ?_ | refine z_p (kk := ?_) | refine z_a (kk := ?_) | with_reducible refine W.endb ?_))
        exact W.endl ⟨_, _, ⟨⟨i + 1, lv', rfl, by omega, rfl, hO6⟩, by omega⟩, (by repeat (first | exact trivial | refine And.intro rfl ?_))⟩
      · rw [if_neg hm] at hfx
        rw [decide_eq_false hm]
        (repeat (first | with_reducible refine Ops.nil ?_))
        refine W.condF rfl (by first | rfl | assumption | (simp only [bnf] <;> omega) | (simp only [*, bnf]; done) | fail) ?_
        (repeat (first | with_reducible refine W.region ?_ | refine z_p (kk := ?_) | with_reducible refine W.skip ?_))
        refine Ops.pushO (enc := Value.int .i64) (u := k) rfl rfl rfl rfl rfl rfl rfl rfl rfl rfl rfl rfl (fun _ => rfl) rfl hO (by omega) (fun lv' p w6 hO6 k6 hn6 => ?_)
        rw [← hfx, hrow, ← fixS_succ] at hO6
        (repeat (first | with_reducible refine Ops.nil ?_ | with_reducible refine W.region ?_ | refine z_p (kk := ?_) | refine z_a (kk := ?_) | with_reducible refine W.endb ?_))
        exact W.endl ⟨_, _, ⟨⟨i + 1, lv', rfl, by omega, rfl, hO6⟩, by omega⟩, (by repeat (first | exact trivial | refine And.intro rfl ?_))⟩
    · have hil : i = c.length := by omega
      subst hil
      (repeat (first | with_reducible refine W.seq ?_ | with_reducible refine Ops.nil ?_ | with_reducible refine W.region ?_ | refine z_p (kk := ?_) | refine W.exit rfl ?_))
      exact W.fret rfl ⟨Below.via hb2 hb3, fun h => (by cases h), fun _ => ⟨ov, rfl, hO.up hb2⟩⟩
/-- The fixed holes, as the reference finds them. -/
theorem fixA_bd (r : List Int) : ∀ m, -1 ≤ fixA r m ∧ fixA r m < m
  | 0 => by simp [fixA]
  | m + 1 => by
    have := fixA_bd r m
    simp only [fixA]
    split <;> omega
set_option maxHeartbeats 2000000 in
theorem refFixed_c {w : World} {cv : Value} {c : List (List Int)} (hM : RowsM w cv c) (hC : Cst c) : Calls Try.prog 35 #[cv] w (Ret fun r w' => OI 3 (Value.int .i64) w w' r (fixS ((List.range c.length).map fun i => fl c.length fun j => slm c i j (allL c.length).length) c.length)) := by
  have hn7 := hC.n7
  obtain ⟨Ac, cc, rfl⟩ := hM.sl
  refine calls_W (vs := [_]) Try.func35 rfl (by kernel_rfl) rfl ?_
  (repeat (first | with_reducible refine W.seq ?_ | with_reducible refine Ops.nil ?_ | with_reducible refine W.region ?_ | refine z_p (kk := ?_)))
  refine Ops.call rfl rfl rfl rfl rfl (refSlack_c hM hC) (fun r w2 hR => ?_)
  obtain ⟨cvs, hR⟩ := hR
  have hb2 := hR.o.bel
  have hM2 := hR.rowsM
  generalize hs : (List.range c.length).map (fun i => fl c.length fun j => slm c i j (allL c.length).length) = s at *
  have hsl : s.length = c.length := by rw [← hs]; simp
  have hrl : ∀ i : Nat, i < c.length → (row s i).length = c.length := fun i hi => by rw [← hs]; simp [row, List.getD_eq_getElem?_getD, hi, fl_len]
  clear hR hs
  obtain ⟨As, cs, rfl⟩ := hM2.sl
  (repeat (first | with_reducible refine W.seq ?_ | with_reducible refine Ops.nil ?_ | with_reducible refine W.region ?_ | refine z_p (kk := ?_) | with_reducible refine W.block ?_))
  refine W.loop (fun m ρ w3 => ∃ (i : Nat) (ov : Value), m = c.length - i ∧ i ≤ c.length ∧ ρ = [(0, .slice Ac c.length cc), (3, .slice As s.length cs), (4, ov), (5, .int .i64 i)] ∧ OI 3 (Value.int .i64) w2 w3 ov (fixS s i))
    ⟨_, _, ⟨0, _, rfl, Nat.zero_le _, rfl, OI.nil (Below.refl _ _)⟩, (by repeat (first | exact trivial | refine And.intro rfl ?_))⟩ ?_
  rintro m ρ w3 ⟨i, ov, rfl, hi, rfl, hO⟩
  have hb3 := hO.bel
  have hfl : (fixS s i).length = i := fl_len _ _
  (repeat (first | with_reducible refine W.seq ?_ | with_reducible refine Ops.nil ?_ | with_reducible refine W.region ?_ | refine z_p (kk := ?_) | refine z_l (kk := ?_)))
  (first | refine W.condD rfl (fun hc => ?_) (fun hc => ?_) | refine W.condE rfl (fun hc => ?_) (fun hc => ?_) | refine W.condN rfl (fun hc => ?_) (fun hc => ?_) | refine W.cond rfl (fun hc => ?_) (fun hc => ?_))
  · have hil : i < c.length := by omega
    have hri := hrl i hil
    have hrow : row s (i : Int) = s.getD i [] := by simp [row]
    (repeat (first | with_reducible refine W.seq ?_ | with_reducible refine Ops.nil ?_ | with_reducible refine W.region ?_ | refine z_p (kk := ?_) | with_reducible refine W.skip ?_ | with_reducible refine W.block ?_))
    refine W.loop (fun m ρ w4 => ∃ (j : Nat), m = c.length - j ∧ j ≤ c.length ∧ w4 = w3 ∧ ρ = [(0, .slice Ac c.length cc), (3, .slice As s.length cs), (4, ov), (5, .int .i64 i), (6, .int .i64 (fixA (row s i) j)), (7, .int .i64 (ct (zer (row s i)) j : Nat)), (8, .int .i64 j)])
      ⟨_, _, ⟨0, rfl, Nat.zero_le _, rfl, rfl⟩, (by repeat (first | exact trivial | refine And.intro rfl ?_))⟩ ?_
    rintro m ρ w4 ⟨j, rfl, hj, rfl, rfl⟩
    have hcl := ct_le (zer (row s i)) j
    (repeat (first | with_reducible refine W.seq ?_ | with_reducible refine Ops.nil ?_ | with_reducible refine W.region ?_ | refine z_p (kk := ?_) | refine z_l (kk := ?_)))
    (first | refine W.condD rfl (fun hc => ?_) (fun hc => ?_) | refine W.condE rfl (fun hc => ?_) (fun hc => ?_) | refine W.condN rfl (fun hc => ?_) (fun hc => ?_) | refine W.cond rfl (fun hc => ?_) (fun hc => ?_))
    · have hjl : j < c.length := by omega
      have hcs : ct (zer (row s i)) (j + 1) = ct (zer (row s i)) j + if zer (row s i) j = true then 1 else 0 := rfl
      have hfs : fixA (row s i) (j + 1) = if (row s i).getD j 0 = 0 then (j : Int) else fixA (row s i) j := rfl
      by_cases hz : (row s (i : Int)).getD j 0 = 0
      · rw [show zer (row s i) j = true from decide_eq_true hz, if_pos rfl] at hcs
        rw [if_pos hz] at hfs
        (repeat (first | with_reducible refine W.seq ?_ | with_reducible refine Ops.nil ?_ | with_reducible refine W.region ?_ | refine z_p (kk := ?_) | with_reducible refine W.skip ?_ | with_reducible refine W.block ?_ | refine z_I (kk := fun _ => ?_) | refine z_r (kk := fun _ _ _ _ => ?_)))
        refine W.condT rfl (by first | rfl | assumption | (simp only [bnf] <;> omega) | (simp only [*, bnf]; done) | fail) ?_
        (repeat (first | with_reducible refine W.seq ?_ | with_reducible refine Ops.nil ?_ | with_reducible refine W.region ?_ | refine z_p (kk := ?_) | refine z_a (kk := ?_) | with_reducible refine W.endb ?_))
        refine W.endl ⟨_, _, ⟨⟨j + 1, rfl, by omega, rfl, rfl⟩, by omega⟩, ?_⟩
        rw [hcs, hfs]
        exact (by repeat (first | exact trivial | refine And.intro rfl ?_))
      · rw [show zer (row s i) j = false from decide_eq_false hz, if_neg (by simp)] at hcs
        rw [if_neg hz] at hfs
        (repeat (first | with_reducible refine W.seq ?_ | with_reducible refine Ops.nil ?_ | with_reducible refine W.region ?_ | refine z_p (kk := ?_) | with_reducible refine W.skip ?_ | with_reducible refine W.block ?_ | refine z_I (kk := fun _ => ?_) | refine z_r (kk := fun _ _ _ _ => ?_)))
        refine W.condF rfl (by first | rfl | assumption | (simp only [bnf] <;> omega) | (simp only [*, bnf]; done) | fail) ?_
        (repeat (first | with_reducible refine Ops.nil ?_ | with_reducible refine W.region ?_ | refine z_p (kk := ?_) | refine z_a (kk := ?_) | with_reducible refine W.skip ?_ | with_reducible refine W.endb ?_))
        refine W.endl ⟨_, _, ⟨⟨j + 1, rfl, by omega, rfl, rfl⟩, by omega⟩, ?_⟩
        rw [hcs, hfs]
        exact (by repeat (first | exact trivial | refine And.intro rfl ?_))
    · have hjl : j = c.length := by omega
      subst hjl
      have hfx : fixV (s.getD i []) (s.getD i []).length = if 1 < ct (zer (row s i)) c.length then -1 else fixA (row s i) c.length := by
        rw [← hrow, hri]; rfl
      have hfb := fixA_bd (row s i) c.length
      (repeat (first | with_reducible refine W.seq ?_ | with_reducible refine Ops.nil ?_ | with_reducible refine W.region ?_ | refine z_p (kk := ?_) | refine W.exit rfl ?_))
      by_cases h1 : (ct (zer (row s (i : Int))) c.length : Int) > 1
      · rw [if_pos (by omega)] at hfx
        refine W.condT rfl (by first | rfl | assumption | (simp only [bnf] <;> omega) | (simp only [*, bnf]; done) | fail) ?_
        (repeat (first | with_reducible refine Ops.nil ?_ | with_reducible refine W.region ?_ | refine z_p (kk := ?_)))
        refine Ops.pushO (enc := Value.int .i64) (u := -1) rfl rfl rfl rfl rfl rfl rfl rfl rfl rfl rfl rfl (fun _ => rfl) rfl hO (by omega) (fun lv' p w6 hO6 k6 hn6 => ?_)
        rw [← hfx, ← fixS_succ] at hO6
        (repeat (first | with_reducible refine Ops.nil ?_ | with_reducible refine W.region ?_ | refine z_p (kk := ?_) | refine z_a (kk := ?_) | with_reducible refine W.endb ?_))
        exact W.endl ⟨_, _, ⟨⟨i + 1, lv', rfl, by omega, rfl, hO6⟩, by omega⟩, (by repeat (first | exact trivial | refine And.intro rfl ?_))⟩
      · rw [if_neg (by omega)] at hfx
        refine W.condF rfl (by first | rfl | assumption | (simp only [bnf] <;> omega) | (simp only [*, bnf]; done) | fail) ?_
        (repeat (first | with_reducible refine W.region ?_ | refine z_p (kk := ?_) | with_reducible refine W.skip ?_))
        refine Ops.pushO (enc := Value.int .i64) (u := fixA (row s i) c.length) rfl rfl rfl rfl rfl rfl rfl rfl rfl rfl rfl rfl (fun _ => rfl) rfl hO (by omega) (fun lv' p w6 hO6 k6 hn6 => ?_)
        rw [← hfx, ← fixS_succ] at hO6
        (repeat (first | with_reducible refine Ops.nil ?_ | with_reducible refine W.region ?_ | refine z_p (kk := ?_) | refine z_a (kk := ?_) | with_reducible refine W.endb ?_))
        exact W.endl ⟨_, _, ⟨⟨i + 1, lv', rfl, by omega, rfl, hO6⟩, by omega⟩, (by repeat (first | exact trivial | refine And.intro rfl ?_))⟩
  · have hil : i = c.length := by omega
    subst hil
    (repeat (first | with_reducible refine W.seq ?_ | with_reducible refine Ops.nil ?_ | with_reducible refine W.region ?_ | refine z_p (kk := ?_) | refine W.exit rfl ?_))
    exact W.fret rfl (hO.up hb2)
end Go.Proofs.Ytehjmakiljhjdaa
namespace Go.Proofs.Ytehjmakiljhjdaa
open Go Go.RowKit Go.Proofs.Ytehjmakiljhjdaa.VW
open Go.Proofs.Ytehjmakiljhjdaa.HP (SegP SortK)
attribute [local irreducible] W Ops OrdA VW.Ord OrdX
def negF (i j : Nat) : Int := if j < i then -1 else 0
theorem negF_all (n : Nat) : fl n (negF n) = List.replicate n (-1) := by
  refine List.ext_getElem (by simp [fl]) (fun k h1 h2 => ?_)
  have hk : k < n := by simpa using h2
  simp [fl, negF, hk]
set_option maxHeartbeats 4000000 in
theorem refGreedy_c {w : World} {cv : Value} {c : List (List Int)} {os : List Int} (hM : RowsM w cv c) (hC : Cst c) (hp : os.Perm (zsP c.length c.length 0)) (hs : SortK (kG c) os 0 os.length) :
    Calls Try.prog 47 #[cv] w (Ret fun r w' => OI 3 (Value.int .i64) w w' r (grF os (List.replicate c.length (-1)))) := by
  obtain ⟨Ac, cc, rfl⟩ := hM.sl
  have hn7 := hC.n7
  have hn1 := hC.n1
  refine calls_W (vs := [_]) Try.func47 rfl (by kernel_rfl) rfl ?_
  (repeat (first | with_reducible refine W.seq ?_ | with_reducible refine Ops.nil ?_ | with_reducible refine W.region ?_ | refine z_p (kk := ?_) | refine z_l (kk := ?_)))
  refine Ops.mkO (Value.int .i64) 0 (w0 := w) (i := c.length) rfl rfl rfl rfl rfl rfl rfl rfl rfl (by omega) rfl (Below.refl _ _) (fun w1 rb hB1 k1 hr1 => ?_)
  rw [fl_zero] at hB1
  (repeat (first | with_reducible refine W.seq ?_ | with_reducible refine Ops.nil ?_ | with_reducible refine W.region ?_ | refine z_p (kk := ?_) | with_reducible refine W.block ?_))
  refine W.loop (fun m ρ w2 => ∃ (i : Nat), m = c.length - i ∧ i ≤ c.length ∧ ρ = [(0, .slice Ac c.length cc), (3, .int .i64 (c.length : Int)), (4, .slice (some ⟨rb, 0, none⟩) c.length c.length), (5, .int .i64 i)] ∧ OI 3 (Value.int .i64) w w2 (.slice (some ⟨rb, 0, none⟩) c.length c.length) (fl c.length (negF i)))
    ⟨_, _, ⟨0, rfl, Nat.zero_le _, rfl, by rw [show negF 0 = fun _ => (0 : Int) from funext fun j => by simp [negF]]; exact hB1⟩, (by repeat (first | exact trivial | refine And.intro rfl ?_))⟩ ?_
  clear hB1
  rintro m ρ w2 ⟨i, rfl, hi, rfl, hB⟩
  have hb2 := hB.bel
  (repeat (first | with_reducible refine W.seq ?_ | with_reducible refine Ops.nil ?_ | with_reducible refine W.region ?_ | refine z_p (kk := ?_)))
  (first | refine W.condD rfl (fun hc => ?_) (fun hc => ?_) | refine W.condE rfl (fun hc => ?_) (fun hc => ?_) | refine W.condN rfl (fun hc => ?_) (fun hc => ?_) | refine W.cond rfl (fun hc => ?_) (fun hc => ?_))
  · have hil : i < c.length := by omega
    (repeat (first | with_reducible refine W.seq ?_ | with_reducible refine W.region ?_ | refine z_p (kk := ?_) | with_reducible refine W.skip ?_ | with_reducible refine W.block ?_))
    refine Ops.wrO (enc := Value.int .i64) (u := -1) rfl rfl rfl rfl rfl rfl rfl rfl rfl rfl rfl rfl (by simp) rfl hB (by rw [fl_len]; omega) (fun w3 p hO3 k3 hs3 => ?_)
    rw [fl_set, fl_congr (g := negF (i + 1)) (fun j hj => by
      unfold negF
      by_cases e : j = i
      · rw [if_pos e, if_pos (by omega)]
      · rw [if_neg e]
        by_cases e2 : j < i
        · rw [if_pos e2, if_pos (by omega)]
        · rw [if_neg e2, if_neg (by omega)])] at hO3
    (repeat (first | with_reducible refine Ops.nil ?_ | with_reducible refine W.region ?_ | refine z_p (kk := ?_) | refine z_a (kk := ?_) | with_reducible refine W.endb ?_))
    exact W.endl ⟨_, _, ⟨⟨i + 1, rfl, by omega, rfl, hO3⟩, by omega⟩, (by repeat (first | exact trivial | refine And.intro rfl ?_))⟩
  · have hil : i = c.length := by omega
    subst hil
    rw [negF_all] at hB
    have hR0 := GrR.start c os
    generalize grF os (List.replicate c.length (-1)) = G at *
    have hus0 := usB_start c.length
    (repeat (first | with_reducible refine W.seq ?_ | with_reducible refine W.region ?_ | refine z_p (kk := ?_) | refine W.exit rfl ?_))
    refine Ops.mkO Value.bool false (w0 := w) (i := c.length) rfl rfl rfl rfl rfl rfl rfl rfl rfl (by omega) rfl hb2 (fun w3 ub hU3 k3 hu3 => ?_)
    rw [← hus0] at hU3
    have hB3 := hB.kp k3 (fun k e => e.elim)
    have hne : rb ≠ ub := fun e => by have := (hB.own.lt rb rfl).2; omega
    generalize List.replicate c.length (-1 : Int) = g0 at *
    clear hB
    (repeat (first | with_reducible refine W.seq ?_ | with_reducible refine Ops.nil ?_ | with_reducible refine W.region ?_ | refine z_p (kk := ?_) | with_reducible refine W.block ?_))
    refine W.loop (fun m ρ w4 => ∃ (k : Nat) (g : List Int), m = c.length - k ∧ k ≤ c.length ∧ ρ = [(0, .slice Ac c.length cc), (3, .int .i64 (c.length : Int)), (4, .slice (some ⟨rb, 0, none⟩) c.length c.length), (6, .slice (some ⟨ub, 0, none⟩) c.length c.length), (7, .int .i64 k)] ∧ OI 3 (Value.int .i64) w w4 (.slice (some ⟨rb, 0, none⟩) c.length c.length) g ∧ OI 4 Value.bool w w4 (.slice (some ⟨ub, 0, none⟩) c.length c.length) (usB g c.length) ∧ GrR c os G k g)
      ⟨_, _, ⟨0, _, rfl, Nat.zero_le _, rfl, hB3, hU3, hR0⟩, (by repeat (first | exact trivial | refine And.intro rfl ?_))⟩ ?_
    clear hB3 hU3 hR0 hb2
    rintro m ρ w4 ⟨k, g, rfl, hk, rfl, hB, hU, hR⟩
    have hb4 := hB.bel
    have hgl := hR.gr.len
    (repeat (first | with_reducible refine W.seq ?_ | with_reducible refine Ops.nil ?_ | with_reducible refine W.region ?_ | refine z_p (kk := ?_)))
    (first | refine W.condD rfl (fun hc => ?_) (fun hc => ?_) | refine W.condE rfl (fun hc => ?_) (fun hc => ?_) | refine W.condN rfl (fun hc => ?_) (fun hc => ?_) | refine W.cond rfl (fun hc => ?_) (fun hc => ?_))
    · have hkl : k < c.length := by omega
      have hBs := hB.sl (z := (0 : Int))
      have hUs := hU.sl (z := false)
      have hul := usB_len (g := g) (n := c.length)
      (repeat (first | with_reducible refine W.seq ?_ | with_reducible refine Ops.nil ?_ | with_reducible refine W.region ?_ | refine z_p (kk := ?_) | with_reducible refine W.skip ?_ | with_reducible refine W.block ?_))
      refine W.loop (fun m ρ w5 => ∃ (i : Nat) (x y : Int), m = c.length - i ∧ i ≤ c.length ∧ ρ = [(0, .slice Ac c.length cc), (3, .int .i64 (c.length : Int)), (4, .slice (some ⟨rb, 0, none⟩) c.length c.length), (6, .slice (some ⟨ub, 0, none⟩) c.length c.length), (7, .int .i64 k), (8, .int .i64 x), (9, .int .i64 y), (10, .int .i64 i)] ∧ Below w4.heap.size w4 w5 ∧ MinP c g (zsP c.length i 0) x y)
        ⟨_, _, ⟨0, _, _, rfl, Nat.zero_le _, rfl, Below.refl _ _, MinP.nil⟩, (by repeat (first | exact trivial | refine And.intro rfl ?_))⟩ ?_
      rintro m ρ w5 ⟨i, x, y, rfl, hi, rfl, hb5, hMi⟩
      (repeat (first | with_reducible refine W.seq ?_ | with_reducible refine Ops.nil ?_ | with_reducible refine W.region ?_ | refine z_p (kk := ?_)))
      (first | refine W.condD rfl (fun hc => ?_) (fun hc => ?_) | refine W.condE rfl (fun hc => ?_) (fun hc => ?_) | refine W.condN rfl (fun hc => ?_) (fun hc => ?_) | refine W.cond rfl (fun hc => ?_) (fun hc => ?_))
      · have hil : i < c.length := by omega
        (repeat (first | with_reducible refine W.seq ?_ | with_reducible refine Ops.nil ?_ | with_reducible refine W.region ?_ | refine z_p (kk := ?_) | with_reducible refine W.skip ?_ | with_reducible refine W.block ?_))
        refine W.loop (fun m ρ w6 => ∃ (j : Nat) (x y : Int), m = c.length - j ∧ j ≤ c.length ∧ ρ = [(0, .slice Ac c.length cc), (3, .int .i64 (c.length : Int)), (4, .slice (some ⟨rb, 0, none⟩) c.length c.length), (6, .slice (some ⟨ub, 0, none⟩) c.length c.length), (7, .int .i64 k), (8, .int .i64 x), (9, .int .i64 y), (10, .int .i64 i), (11, .int .i64 j)] ∧ Below w4.heap.size w4 w6 ∧ MinP c g (zsP c.length i j) x y)
          ⟨_, _, ⟨0, _, _, rfl, Nat.zero_le _, rfl, hb5, hMi⟩, (by repeat (first | exact trivial | refine And.intro rfl ?_))⟩ ?_
        clear hMi hb5
        rintro m ρ w6 ⟨j, x, y, rfl, hj, rfl, hb6, hMi⟩
        (repeat (first | with_reducible refine W.seq ?_ | with_reducible refine Ops.nil ?_ | with_reducible refine W.region ?_ | refine z_p (kk := ?_)))
        (first | refine W.condD rfl (fun hc => ?_) (fun hc => ?_) | refine W.condE rfl (fun hc => ?_) (fun hc => ?_) | refine W.condN rfl (fun hc => ?_) (fun hc => ?_) | refine W.cond rfl (fun hc => ?_) (fun hc => ?_))
        · have hjl : j < c.length := by omega
          have hFp := FreeP_pr (g := g) (i := i) (j := j) (by omega)
          have hub := usB_at (g := g) hjl
          have hb06 := Below.via hb4 hb6
          have hrc : row c (i : Int) = c.getD i [] := by simp [row]
          have hcli := hC.len i hil
          rw [← hrc] at hcli
          (repeat (first | with_reducible refine W.seq ?_ | with_reducible refine W.skip ?_ | with_reducible refine W.block ?_))
          by_cases hg : g.getD i 0 < 0
          · by_cases hy : (j : Int) ∈ g
            · rw [decide_eq_true hy] at hub
              have hMn : MinP c g (zsP c.length i (j + 1)) x y := by
                rw [zsP_snoc]; exact hMi.keep (fun h => (hFp.1 h).2 hy)
              refine W.ordA 99 [(0, 1), (1, 1), (2, 1), (3, 2), (4, 1), (5, 1), (6, 1), (7, 1), (8, 1), (9, 2), (10, 1), (11, 1), (12, 1), (13, 1), (14, 1), (15, 1), (16, 1), (17, 1), (18, 1), (19, 2), (20, 1), (21, 1), (22, 2), (23, 1), (24, 1), (25, 1), (26, 2), (27, 1), (28, 1), (29, 2), (30, 1), (31, 1), (32, 1)] rfl (by kernel_rfl) rfl (by kernel_rfl) (fun _ _ _ h => h) ?_
              (repeat (first | refine x_p (kk := ?_) | refine x_n (kk := ?_) | refine x_I (kk := fun _ => ?_) | refine x_J (kk := fun _ => ?_) | refine x_t (kk := ?_) | refine x_f (kk := ?_)))
              refine OrdA.nil (fun w7 hb7 => ?_)
              skip
              refine W.condF rfl (by first | rfl | assumption | (simp only [bnf] <;> omega) | (simp only [*, bnf]; done) | fail) ?_
              (repeat (first | with_reducible refine Ops.nil ?_ | with_reducible refine W.region ?_ | refine z_p (kk := ?_) | refine z_a (kk := ?_) | with_reducible refine W.skip ?_ | with_reducible refine W.endb ?_))
              exact W.endl ⟨_, _, ⟨⟨j + 1, x, y, rfl, by omega, rfl, Below.via hb6 hb7, hMn⟩, by omega⟩, (by repeat (first | exact trivial | refine And.intro rfl ?_))⟩
            · rw [decide_eq_false hy] at hub
              have hfree : FreeP g (prC i j) := hFp.2 ⟨hg, hy⟩
              rcases id hMi with ⟨rfl, -, -⟩ | ⟨a, b, rfl, rfl, ha, hb, -⟩
              · have hMn : MinP c g (zsP c.length i (j + 1)) (i : Int) (j : Int) := by
                  rw [zsP_snoc]; exact hMi.first hil hjl hfree
                refine W.ordA 99 [(0, 1), (1, 1), (2, 1), (3, 2), (4, 1), (5, 1), (6, 1), (7, 1), (8, 1), (9, 2), (10, 1), (11, 1), (12, 1), (13, 1), (14, 1), (15, 1), (16, 1), (17, 1), (18, 1), (19, 2), (20, 1), (21, 1), (22, 2), (23, 1), (24, 1), (25, 1), (26, 2), (27, 1), (28, 1), (29, 2), (30, 1), (31, 1), (32, 1)] rfl (by kernel_rfl) rfl (by kernel_rfl) (fun _ _ _ h => h) ?_
                (repeat (first | refine x_p (kk := ?_) | refine x_n (kk := ?_) | refine x_I (kk := fun _ => ?_) | refine x_J (kk := fun _ => ?_) | refine x_t (kk := ?_)))
                refine OrdA.nil (fun w7 hb7 => ?_)
                skip
                refine W.condT rfl (by first | rfl | assumption | (simp only [bnf] <;> omega) | (simp only [*, bnf]; done) | fail) ?_
                (repeat (first | with_reducible refine W.seq ?_ | with_reducible refine Ops.nil ?_ | with_reducible refine W.region ?_ | refine z_p (kk := ?_) | refine z_a (kk := ?_) | with_reducible refine W.endb ?_))
                exact W.endl ⟨_, _, ⟨⟨j + 1, i, j, rfl, by omega, rfl, Below.via hb6 hb7, hMn⟩, by omega⟩, (by repeat (first | exact trivial | refine And.intro rfl ?_))⟩
              · have hra : row c (a : Int) = c.getD a [] := by simp [row]
                have hca := hC.len a ha
                rw [← hra] at hca
                have e1 : eC c i j = (row c (i : Int)).getD j 0 := by rw [hrc]; rfl
                have e2 : eC c a b = (row c (a : Int)).getD b 0 := by rw [hra]; rfl
                by_cases hlt : (row c (i : Int)).getD j 0 < (row c (a : Int)).getD b 0
                · have hMn : MinP c g (zsP c.length i (j + 1)) (i : Int) (j : Int) := hMi.less hn7 hil hjl hfree (by rw [e1, e2]; exact hlt)
                  refine W.ordA 99 [(0, 1), (1, 1), (2, 1), (3, 2), (4, 1), (5, 1), (6, 1), (7, 1), (8, 1), (9, 2), (10, 1), (11, 1), (12, 1), (13, 1), (14, 1), (15, 1), (16, 1), (17, 1), (18, 1), (19, 2), (20, 1), (21, 1), (22, 2), (23, 1), (24, 1), (25, 1), (26, 2), (27, 1), (28, 1), (29, 2), (30, 1), (31, 1), (32, 1)] rfl (by kernel_rfl) rfl (by kernel_rfl) (fun _ _ _ h => h) ?_
                  (repeat (first | refine x_p (kk := ?_) | refine x_I (kk := fun _ => ?_) | refine x_J (kk := fun _ => ?_) | refine x_r (kk := fun _ _ _ _ => ?_) | refine x_t (kk := ?_)))
                  refine OrdA.nil (fun w7 hb7 => ?_)
                  skip
                  refine W.condT rfl (by first | rfl | assumption | (simp only [bnf] <;> omega) | (simp only [*, bnf]; done) | fail) ?_
                  (repeat (first | with_reducible refine W.seq ?_ | with_reducible refine Ops.nil ?_ | with_reducible refine W.region ?_ | refine z_p (kk := ?_) | refine z_a (kk := ?_) | with_reducible refine W.endb ?_))
                  exact W.endl ⟨_, _, ⟨⟨j + 1, i, j, rfl, by omega, rfl, Below.via hb6 hb7, hMn⟩, by omega⟩, (by repeat (first | exact trivial | refine And.intro rfl ?_))⟩
                · have hMn : MinP c g (zsP c.length i (j + 1)) (a : Int) (b : Int) := hMi.not hn7 hil hjl (by rw [e1, e2]; exact hlt)
                  refine W.ordA 99 [(0, 1), (1, 1), (2, 1), (3, 2), (4, 1), (5, 1), (6, 1), (7, 1), (8, 1), (9, 2), (10, 1), (11, 1), (12, 1), (13, 1), (14, 1), (15, 1), (16, 1), (17, 1), (18, 1), (19, 2), (20, 1), (21, 1), (22, 2), (23, 1), (24, 1), (25, 1), (26, 2), (27, 1), (28, 1), (29, 2), (30, 1), (31, 1), (32, 1)] rfl (by kernel_rfl) rfl (by kernel_rfl) (fun _ _ _ h => h) ?_
                  (repeat (first | refine x_p (kk := ?_) | refine x_I (kk := fun _ => ?_) | refine x_J (kk := fun _ => ?_) | refine x_r (kk := fun _ _ _ _ => ?_) | refine x_t (kk := ?_)))
                  refine OrdA.nil (fun w7 hb7 => ?_)
                  skip
                  refine W.condF rfl (by first | rfl | assumption | (simp only [bnf] <;> omega) | (simp only [*, bnf]; done) | fail) ?_
                  (repeat (first | with_reducible refine Ops.nil ?_ | with_reducible refine W.region ?_ | refine z_p (kk := ?_) | refine z_a (kk := ?_) | with_reducible refine W.skip ?_ | with_reducible refine W.endb ?_))
                  exact W.endl ⟨_, _, ⟨⟨j + 1, a, b, rfl, by omega, rfl, Below.via hb6 hb7, hMn⟩, by omega⟩, (by repeat (first | exact trivial | refine And.intro rfl ?_))⟩
          · have hMn : MinP c g (zsP c.length i (j + 1)) x y := by
              rw [zsP_snoc]; exact hMi.keep (fun h => hg (hFp.1 h).1)
            refine W.ordA 99 [(0, 1), (1, 1), (2, 1), (3, 2), (4, 1), (5, 1), (6, 1), (7, 1), (8, 1), (9, 2), (10, 1), (11, 1), (12, 1), (13, 1), (14, 1), (15, 1), (16, 1), (17, 1), (18, 1), (19, 2), (20, 1), (21, 1), (22, 2), (23, 1), (24, 1), (25, 1), (26, 2), (27, 1), (28, 1), (29, 2), (30, 1), (31, 1), (32, 1)] rfl (by kernel_rfl) rfl (by kernel_rfl) (fun _ _ _ h => h) ?_
            (repeat (first | refine x_p (kk := ?_) | refine x_n (kk := ?_) | refine x_I (kk := fun _ => ?_) | refine x_f (kk := ?_)))
            refine OrdA.nil (fun w7 hb7 => ?_)
            skip
            refine W.condF rfl (by first | rfl | assumption | (simp only [bnf] <;> omega) | (simp only [*, bnf]; done) | fail) ?_
            (repeat (first | with_reducible refine Ops.nil ?_ | with_reducible refine W.region ?_ | refine z_p (kk := ?_) | refine z_a (kk := ?_) | with_reducible refine W.skip ?_ | with_reducible refine W.endb ?_))
            exact W.endl ⟨_, _, ⟨⟨j + 1, x, y, rfl, by omega, rfl, Below.via hb6 hb7, hMn⟩, by omega⟩, (by repeat (first | exact trivial | refine And.intro rfl ?_))⟩
        · have hjl : j = c.length := by omega
          subst hjl
          rw [← zsP_next] at hMi
          (repeat (first | with_reducible refine Ops.nil ?_ | with_reducible refine W.region ?_ | refine z_p (kk := ?_) | refine z_a (kk := ?_) | with_reducible refine W.endb ?_ | refine W.exit rfl ?_))
          exact W.endl ⟨_, _, ⟨⟨i + 1, x, y, rfl, by omega, rfl, hb6, hMi⟩, by omega⟩, (by repeat (first | exact trivial | refine And.intro rfl ?_))⟩
      · have hil : i = c.length := by omega
        subst hil
        obtain ⟨a, b, rfl, rfl, ha, hb, hneg, hR2⟩ := hR.step hkl hn7 hp hs hMi
        have hB5 := hB.below hb5
        have hU5 := hU.below hb5
        (repeat (first | with_reducible refine W.seq ?_ | with_reducible refine W.region ?_ | refine z_p (kk := ?_) | refine W.exit rfl ?_))
        refine Ops.wrO (enc := Value.int .i64) (u := (b : Int)) rfl rfl rfl rfl rfl rfl rfl rfl rfl rfl rfl rfl (by simp) rfl hB5 (by omega) (fun w6 p hB6 k6 hs6 => ?_)
        have hU6 := hU5.kp k6 (fun k e => ⟨hB5.ge k e, fun e2 => by have h1 := own_r e; have h2 := own_r e2; omega⟩)
        (repeat (first | with_reducible refine Ops.nil ?_ | with_reducible refine W.region ?_ | refine z_p (kk := ?_)))
        refine Ops.wrO (enc := Value.bool) (u := true) rfl rfl rfl rfl rfl rfl rfl rfl rfl rfl rfl rfl (by simp) rfl hU6 (by omega) (fun w7 p hU7 k7 hs7 => ?_)
        have hB7 := hB6.kp k7 (fun k e => ⟨hU6.ge k e, fun e2 => by have h1 := own_r e; have h2 := own_r e2; omega⟩)
        rw [usB_set (by omega) hneg hb] at hU7
        (repeat (first | with_reducible refine Ops.nil ?_ | with_reducible refine W.region ?_ | refine z_p (kk := ?_) | refine z_a (kk := ?_) | with_reducible refine W.endb ?_))
        exact W.endl ⟨_, _, ⟨⟨k + 1, g.set a b, rfl, by omega, rfl, hB7, hU7, hR2⟩, by omega⟩, (by repeat (first | exact trivial | refine And.intro rfl ?_))⟩
    · have hkl : k = c.length := by omega
      subst hkl
      have := hR.end_
      subst this
      (repeat (first | with_reducible refine W.seq ?_ | with_reducible refine Ops.nil ?_ | with_reducible refine W.region ?_ | refine z_p (kk := ?_) | refine W.exit rfl ?_))
      exact W.fret rfl hB
end Go.Proofs.Ytehjmakiljhjdaa
namespace Go.Proofs.Ytehjmakiljhjdaa
open Go Go.RowKit Go.Proofs.Ytehjmakiljhjdaa.VW
attribute [local irreducible] W Ops OrdA VW.Ord OrdX
def tmC (l : List (List Int)) (n : Nat) (most : Int) : List (List Int) := (List.range n).map fun i => tmR l n most i n
theorem tmC_len (l : List (List Int)) (n : Nat) (most : Int) : (tmC l n most).length = n := by simp [tmC]
theorem tmC_row {l : List (List Int)} {n : Nat} {most : Int} {i : Nat} (h : i < n) : (tmC l n most).getD i [] = tmR l n most i n := by simp [tmC, List.getD_eq_getElem?_getD, h]
theorem tmC_ent {l : List (List Int)} {n : Nat} {most : Int} {i j : Nat} (h : i < n) (hj : j < n) : ((tmC l n most).getD i []).getD j 0 = tmV most ((l.getD i []).getD j 0) := by
  rw [tmC_row h]
  simp [tmR, List.getD_eq_getElem?_getD, hj]
theorem tmC_cst (l : List (List Int)) {n : Nat} {most : Int} (h1 : 1 ≤ n) (h7 : n ≤ 7) (m0 : 0 ≤ most) (m1 : most ≤ 1000) : Cst (tmC l n most) := by
  refine ⟨by rw [tmC_len]; exact h1, by rw [tmC_len]; exact h7, fun i hi => ?_, fun i j hi hj => ?_⟩
  · rw [tmC_len] at hi ⊢
    rw [tmC_row hi, tmR_len]
  · rw [tmC_len] at hi hj
    rw [tmC_ent hi hj]
    have := tmV_bd m0 ((l.getD i []).getD j 0)
    omega
/-- Where there is a block, there is no assignment. -/
theorem blk_no {c : List (List Int)} {x : Int} {l a : List Int} (hb : BlkS c x l) (ha : OkA c x a) : False := by
  obtain ⟨h1, h2⟩ := hb
  rw [holesH_len] at h2
  have hmono : ∀ j i : Nat, i < j → j < l.length → l.getD i 0 < l.getD j 0 := fun j => by
    induction j with
    | zero => intro i hi; omega
    | succ j ih =>
      intro i hi hj
      have h3 := (h1 (j + 1) hj).2 (by omega)
      rw [Nat.add_sub_cancel] at h3
      by_cases e : i = j
      · subst e; exact h3
      · have := ih i (by omega) (by omega); omega
  have hle := nodup_sub ((List.range l.length).map fun q => funA a (l.getD q 0).toNat) ((List.range c.length).filter (someB c x l)) (map_inj_nodup (fun i k hi hk e => by
    have b1 := (h1 i hi).1
    have b2 := (h1 k hk).1
    have := asg_inj ha.1 _ _ (by omega) (by omega) e
    rcases Nat.lt_trichotomy i k with h | h | h
    · have := hmono k i h hk; omega
    · exact h
    · have := hmono i k h hi; omega)) (fun y hy => by
    obtain ⟨q, hq, rfl⟩ := List.mem_map.1 hy
    have hql := List.mem_range.1 hq
    have b1 := (h1 q hql).1
    refine List.mem_filter.2 ⟨List.mem_range.2 (ha.1.funA (by omega)).2, someB_iff.2 ⟨q, hql, ha.2 (l.getD q 0).toNat (by omega)⟩⟩)
  simp at hle
  omega
theorem blk_mono {c : List (List Int)} {x y : Int} {a : List Int} (h : OkA c x a) (hxy : x ≤ y) : OkA c y a := ⟨h.1, fun i hi => by have := h.2 i hi; omega⟩
set_option maxHeartbeats 4000000 in
theorem wideLaw_c {w : World} {mv lv : Value} {n a0 a1 : Int} {l : List (List Int)} {by_ : List Int} (hm : ArgR w mv l) (hl : Arg w lv by_) :
    Calls Try.prog 4 #[.int .i64 n, mv, .agg #[.int .i64 a0, .int .i64 a1], lv] w (Ret fun r w' => r = .bool true ∧ Below w.heap.size w w') := by
  refine calls_W (vs := [_, _, _, _]) Try.func4 rfl (by kernel_rfl) rfl ?_
  (repeat (first | with_reducible refine W.seq ?_ | with_reducible refine W.region ?_))
  refine Ops.box rfl rfl rfl rfl (fun w1 b1 hM1 => ?_)
  have hB1 : Blk w1 b1 #[.int .i64 a0, .int .i64 a1] 37 := hM1.at_
  have hb1 := Mk.bel hM1
  (repeat (first | with_reducible refine W.seq ?_ | with_reducible refine Ops.nil ?_ | with_reducible refine W.region ?_ | refine z_p (kk := ?_)))
  refine Ops.callS rfl rfl rfl rfl rfl (mod_c _ _ _ (by omega) (by omega)) ?_
  have hmb := modI_bd n (n := 7) (by omega)
  obtain ⟨n0, hn0⟩ := Int.eq_ofNat_of_zero_le hmb.1
  rw [hn0] at hmb ⊢
  (repeat (first | with_reducible refine W.seq ?_ | with_reducible refine Ops.nil ?_ | with_reducible refine W.region ?_ | refine z_p (kk := ?_) | refine z_a (kk := ?_)))
  rw [show (1 : Int) + ((n0 : Nat) : Int) = ((n0 + 1 : Nat) : Int) by omega]
  refine Ops.call rfl rfl rfl rfl rfl (tame_c ((hm.1).below hb1) (n := n0 + 1) (by omega) (by omega) (by omega)) (fun tv w2 hR => ?_)
  obtain ⟨cvs, hR⟩ := hR
  have hb2 := Below.via hb1 hR.o.bel
  have hM2 := hR.rowsM
  change RowsM w2 tv (tmC l (n0 + 1) 1000) at hM2
  have hC := tmC_cst l (n := n0 + 1) (most := 1000) (by omega) (by omega) (by omega) (by omega)
  have hcl := tmC_len l (n0 + 1) 1000
  generalize tmC l (n0 + 1) 1000 = c at *
  have hB2 : Blk w2 b1 #[.int .i64 a0, .int .i64 a1] 37 := hB1.kp (Kp.of_below (S := fun _ => False) hR.o.bel) (fun e => e)
  clear hR hM1 hB1
  (repeat (first | with_reducible refine W.seq ?_ | with_reducible refine Ops.nil ?_ | with_reducible refine W.region ?_ | refine z_p (kk := ?_)))
  refine Ops.call rfl rfl rfl rfl rfl (Narrow_c hM2) (fun r w3 hR => ?_)
  obtain ⟨hb3, -, hR⟩ := hR
  have hcB : costsB c = true := costs_iff.2 hC
  obtain ⟨av, x, bv, a, b, rfl, ha, hbl, hN⟩ := hR hcB
  have hM3 := hM2.below hb3
  have hb03 := Below.via hb2 hb3
  have hx0 := flat_bd hC hN.mem
  (repeat (first | with_reducible refine W.seq ?_ | with_reducible refine Ops.nil ?_ | with_reducible refine W.region ?_ | refine z_p (kk := ?_)))
  refine Ops.call rfl rfl rfl rfl rfl (order_c (Sl.below hl.1 hb03) (n := n0 + 1) (by omega)) (fun ov w4 hR => ?_)
  have hO4 := hR.sl (z := (0 : Int))
  have hAo := ordL_asg by_ (n0 + 1)
  generalize ordL by_ (n0 + 1) = o at *
  rw [← hcl] at hAo
  have hb4 := hR.bel
  clear hR
  have hM4 := hM3.below hb4
  (repeat (first | with_reducible refine W.seq ?_ | with_reducible refine Ops.nil ?_ | with_reducible refine W.region ?_ | refine z_p (kk := ?_) | refine z_y (kk := ?_)))
  refine Ops.call rfl rfl rfl rfl rfl (refAsg_c (Sl.below ha hb4) (n := n0 + 1) (by omega)) (fun r w5 hR => ?_)
  obtain ⟨rfl, hb5⟩ := hR
  rw [decide_eq_true (show Asg a (n0 + 1) from by rw [← hcl]; exact hN.ok.1)]
  have hM5 := hM4.below hb5
  have hb35 := Below.via hb4 hb5
  (repeat (first | refine z_p (kk := ?_) | refine z_y (kk := ?_)))
  refine Ops.call rfl rfl rfl rfl rfl (Width_c hM5 hC (Sl.below ha hb35) (fun i hi => (hN.ok.1.2 i hi).1) hN.ok.1.1) (fun r w6 hR => ?_)
  obtain ⟨rfl, hb6⟩ := hR
  rw [hN.ok.1.1, hN.wid hC]
  have hM6 := hM5.below hb6
  (repeat (first | refine z_p (kk := ?_) | refine z_y (kk := ?_) | refine z_h (kk := ?_)))
  refine Ops.call rfl rfl rfl rfl rfl (Width_c hM6 hC (Sl.below hO4 (Below.via hb5 hb6)) (fun i hi => (hAo.2 i hi).1) hAo.1) (fun r w7 hR => ?_)
  obtain ⟨rfl, hb7⟩ := hR
  have hmin := hN.min hC hAo
  rw [hAo.1]
  have hM7 := hM6.below hb7
  have hb37 := Below.via hb35 (Below.via hb6 hb7)
  (repeat (first | with_reducible refine Ops.nil ?_ | refine z_p (kk := ?_) | refine z_y (kk := ?_)))
  refine W.condF rfl (by first | rfl | assumption | (simp only [bnf] <;> omega) | (simp only [*, bnf]; done) | fail) ?_
  (repeat (first | with_reducible refine W.seq ?_ | with_reducible refine W.region ?_ | refine z_p (kk := ?_) | refine z_a (kk := ?_) | with_reducible refine W.skip ?_))
  refine Ops.call rfl rfl rfl rfl rfl (IsBlock_c hM7 (Sl.below hbl hb37)) (fun r w8 hR => ?_)
  obtain ⟨rfl, hb8⟩ := hR
  rw [hcB, if_pos rfl, decide_eq_true hN.blk]
  have hM8 := hM7.below hb8
  have hb38 := Below.via hb37 hb8
  (repeat (first | with_reducible refine W.seq ?_ | with_reducible refine Ops.nil ?_ | with_reducible refine W.region ?_ | refine z_p (kk := ?_)))
  refine Ops.call rfl rfl rfl rfl rfl (IsBlock_c hM8 (Sl.below hbl hb38)) (fun r w9 hR => ?_)
  obtain ⟨rfl, hb9⟩ := hR
  rw [hcB, if_pos rfl, decide_eq_false (fun h => blk_no h hN.ok)]
  have hM9 := hM8.below hb9
  have hb39 := Below.via hb38 hb9
  have hB9 : Blk w9 b1 #[.int .i64 a0, .int .i64 a1] 37 := hB2.kp (Kp.of_below (S := fun _ => False) (Below.via hb3 hb39)) (fun e => e)
  (repeat (first | with_reducible refine W.seq ?_ | with_reducible refine Ops.nil ?_ | with_reducible refine W.region ?_ | refine z_p (kk := ?_) | with_reducible refine W.block ?_))
  refine W.loop (fun m ρ w10 => ∃ (i : Nat) (sv : Value) (ss : List Int), m = n0 + 1 - i ∧ i ≤ n0 + 1 ∧ ρ = [(0, .int .i64 ((n0 + 1 : Nat) : Int)), (6, .pointer (some ⟨b1, 0, none⟩)), (9, tv), (11, .int .i64 x), (15, .bool true), (16, .int .i64 0), (17, .bool false), (18, .int .i64 0), (19, sv), (20, .int .i64 i)] ∧ ss.length ≤ i ∧ OI 3 (Value.int .i64) w9 w10 sv ss)
    ⟨_, _, ⟨0, _, [], rfl, Nat.zero_le _, rfl, Nat.le_refl _, OI.nil (Below.refl _ _)⟩, (by repeat (first | exact trivial | refine And.intro rfl ?_))⟩ ?_
  rintro m ρ w10 ⟨i, sv, ss, rfl, hi, rfl, hsl, hO⟩
  have hb10 := hO.bel
  have hB10 : Blk w10 b1 #[.int .i64 a0, .int .i64 a1] 37 := hB9.kp (Kp.of_below (S := fun _ => False) hb10) (fun e => e)
  (repeat (first | with_reducible refine W.seq ?_ | with_reducible refine Ops.nil ?_ | with_reducible refine W.region ?_ | refine z_p (kk := ?_)))
  (first | refine W.condD rfl (fun hc => ?_) (fun hc => ?_) | refine W.condE rfl (fun hc => ?_) (fun hc => ?_) | refine W.condN rfl (fun hc => ?_) (fun hc => ?_) | refine W.cond rfl (fun hc => ?_) (fun hc => ?_))
  · have hil : i < n0 + 1 := by omega
    (repeat (first | with_reducible refine W.seq ?_ | with_reducible refine W.region ?_ | with_reducible refine W.skip ?_ | with_reducible refine W.block ?_))
    refine Ops.evG rfl rfl rfl (EV.idxP rfl rfl rfl rfl rfl (by omega) (by omega)) ?_
    rw [add_lit]
    (repeat (first | refine z_d (kk := ?_)))
    refine Ops.callS rfl rfl rfl rfl rfl (mod_c _ _ _ (by omega) (by omega)) ?_
    have hmb1 := modI_bd a0 (n := 128) (by omega)
    obtain ⟨n1, hn1⟩ := Int.eq_ofNat_of_zero_le hmb1.1
    rw [hn1] at hmb1 ⊢
    (repeat (first | refine z_p (kk := ?_) | refine z_Q (kk := ?_)))
    refine Ops.rem rfl rfl rfl rfl rfl (by omega) ?_
    (repeat (first | with_reducible refine Ops.nil ?_ | refine z_p (kk := ?_)))
    refine W.cond rfl (fun hc => ?_) (fun hc => ?_)
    · (repeat (first | with_reducible refine W.region ?_ | refine z_p (kk := ?_)))
      refine Ops.pushO (enc := Value.int .i64) (u := (i : Int)) rfl rfl rfl rfl rfl rfl rfl rfl rfl rfl rfl rfl (fun _ => rfl) rfl hO (by omega) (fun lv' p w11 hO11 k11 hn11 => ?_)
      (repeat (first | with_reducible refine Ops.nil ?_ | with_reducible refine W.region ?_ | refine z_p (kk := ?_) | refine z_a (kk := ?_) | with_reducible refine W.endb ?_))
      exact W.endl ⟨_, _, ⟨⟨i + 1, lv', _, rfl, by omega, rfl, by simp; omega, hO11⟩, by omega⟩, (by repeat (first | exact trivial | refine And.intro rfl ?_))⟩
    · (repeat (first | with_reducible refine Ops.nil ?_ | with_reducible refine W.region ?_ | refine z_p (kk := ?_) | refine z_a (kk := ?_) | with_reducible refine W.skip ?_ | with_reducible refine W.endb ?_))
      exact W.endl ⟨_, _, ⟨⟨i + 1, sv, ss, rfl, by omega, rfl, by omega, hO⟩, by omega⟩, (by repeat (first | exact trivial | refine And.intro rfl ?_))⟩
  · have hil : i = n0 + 1 := by omega
    (repeat (first | with_reducible refine W.seq ?_ | with_reducible refine W.region ?_ | refine z_p (kk := ?_) | refine W.exit rfl ?_))
    refine Ops.evG rfl rfl rfl (EV.idxP rfl rfl rfl rfl rfl (by omega) (by omega)) ?_
    rw [add_lit]
    (repeat (first | refine z_d (kk := ?_)))
    refine Ops.callS rfl rfl rfl rfl rfl (mod_c _ _ _ (by omega) (by omega)) ?_
    have hmb1 := modI_bd a1 (n := 50) (by omega)
    have hb1010 : Below w10.heap.size w10 w10 := Below.refl _ _
    have hM10 := hM9.below hb10
    (repeat (first | with_reducible refine W.seq ?_ | with_reducible refine Ops.nil ?_ | with_reducible refine W.region ?_ | refine z_p (kk := ?_) | refine z_a (kk := ?_)))
    refine Ops.call rfl rfl rfl rfl rfl (IsBlock_c hM10 hO.sl) (fun r w11 hR => ?_)
    obtain ⟨rfl, hb11⟩ := hR
    rw [hcB, if_pos rfl]
    have hb011 := Below.via hb03 (Below.via hb39 (Below.via hb10 hb11))
    by_cases hB : BlkS c (x - modI a1 50) ss
    · have hlt : x - modI a1 50 < x := by
        rcases Int.lt_or_le (x - modI a1 50) x with h | h
        · exact h
        · exact (blk_no hB (blk_mono hN.ok h)).elim
      rw [decide_eq_true hB]
      (repeat (first | with_reducible refine W.seq ?_ | with_reducible refine Ops.nil ?_ | with_reducible refine W.region ?_ | refine z_p (kk := ?_) | refine z_y (kk := ?_) | refine z_h (kk := ?_)))
      refine Ops.call rfl rfl rfl rfl rfl (awake_c _) (fun r w12 hR => ?_)
      obtain ⟨rfl, hb12⟩ := hR
      (repeat (first | with_reducible refine Ops.nil ?_ | refine z_p (kk := ?_)))
      exact W.fret rfl ⟨rfl, Below.via hb011 hb12⟩
    · rw [decide_eq_false hB]
      (repeat (first | with_reducible refine W.seq ?_ | with_reducible refine Ops.nil ?_ | with_reducible refine W.region ?_ | refine z_p (kk := ?_) | refine z_y (kk := ?_) | refine z_n (kk := ?_)))
      refine Ops.call rfl rfl rfl rfl rfl (awake_c _) (fun r w12 hR => ?_)
      obtain ⟨rfl, hb12⟩ := hR
      (repeat (first | with_reducible refine Ops.nil ?_ | refine z_p (kk := ?_)))
      exact W.fret rfl ⟨rfl, Below.via hb011 hb12⟩
end Go.Proofs.Ytehjmakiljhjdaa
namespace Go.Proofs.Ytehjmakiljhjdaa
open Go Go.RowKit Go.Proofs.Ytehjmakiljhjdaa.VW
attribute [local irreducible] W Ops OrdA VW.Ord OrdX
/-- The copy of a table, all of it the call's own. -/
theorem table_w {w : World} {v : Value} {c : List (List Int)} (h : ArgR w v c) (hC : Cst c) : Calls Try.prog 16 #[v] w (Ret fun r w' => ∃ cvs, RW w w' r cvs c.length (fun q => c.getD q [])) := by
  have hll := h.1.1
  have hn7 := hC.n7
  obtain ⟨At, ct, rfl⟩ := h.1.sl
  refine calls_W (vs := [_]) Try.func16 rfl (by kernel_rfl) rfl ?_
  (repeat (first | with_reducible refine W.seq ?_ | with_reducible refine Ops.nil ?_ | with_reducible refine W.region ?_ | refine z_p (kk := ?_) | with_reducible refine W.block ?_))
  refine W.loop (fun m ρ w3 => ∃ (i : Nat) (ov : Value) (cvs : List Value), m = c.length - i ∧ i ≤ c.length ∧ ρ = [(0, .slice At c.length ct), (3, ov), (4, .int .i64 i)] ∧ RW w w3 ov cvs i (fun q => c.getD q []))
    ⟨_, _, ⟨0, _, _, rfl, Nat.zero_le _, rfl, RW.nil (Below.refl _ _)⟩, (by repeat (first | exact trivial | refine And.intro rfl ?_))⟩ ?_
  rintro m ρ w3 ⟨i, ov, cvs, rfl, hi, rfl, hO⟩
  have hb3 := hO.o.bel
  have hcl := hO.len
  by_cases hgo : i < c.length
  · have hlen := hC.len i hgo
    have hrow : row c (i : Int) = c.getD i [] := by simp [row]
    (repeat (first | with_reducible refine W.seq ?_ | with_reducible refine Ops.nil ?_ | with_reducible refine W.region ?_ | refine z_p (kk := ?_) | refine z_y (kk := ?_) | refine z_l (kk := ?_) | refine z_h (kk := ?_)))
    refine W.condT rfl (by first | rfl | assumption | (simp only [bnf] <;> omega) | (simp only [*, bnf]; done) | fail) ?_
    (repeat (first | with_reducible refine W.seq ?_ | with_reducible refine W.region ?_ | refine z_p (kk := ?_) | with_reducible refine W.skip ?_ | with_reducible refine W.block ?_))
    refine z_R (kk := fun A' m' p hsl hcap => ?_)
    refine Ops.call rfl rfl rfl rfl rfl (list_c ⟨Sl.below hsl hO.o.bel, _, _, rfl, hcap⟩) (fun r w5 hR => ?_)
    have htk : (row c (i : Int)).take 8 = c.getD i [] := by rw [hrow, List.take_of_length_le (by omega)]
    rw [htk] at hR
    have hO5 := hO.below hR.bel
    have hr1 : r.oneCell' = true := by obtain ⟨A, c, rfl⟩ := hR.sh; rfl
    refine Ops.pushO (enc := fun v : Value => v) (u := r) rfl rfl rfl rfl rfl rfl rfl rfl rfl rfl rfl rfl (fun _ => rfl) hr1 hO5.o (by omega) (fun lv' p w6 hO6 k6 hn6 => ?_)
    have hO7 := hO.push hR hO6 k6 hn6
    (repeat (first | with_reducible refine Ops.nil ?_ | with_reducible refine W.region ?_ | refine z_p (kk := ?_) | refine z_a (kk := ?_) | with_reducible refine W.endb ?_))
    exact W.endl ⟨_, _, ⟨⟨i + 1, lv', cvs ++ [r], rfl, by omega, rfl, hO7⟩, by omega⟩, (by repeat (first | exact trivial | refine And.intro rfl ?_))⟩
  · have hil : i = c.length := by omega
    subst hil
    (repeat (first | with_reducible refine W.seq ?_ | with_reducible refine Ops.nil ?_ | with_reducible refine W.region ?_ | refine z_p (kk := ?_) | refine z_n (kk := ?_) | refine z_l (kk := ?_) | refine z_g (kk := ?_)))
    refine W.condF rfl (by first | rfl | assumption | (simp only [bnf] <;> omega) | (simp only [*, bnf]; done) | fail) ?_
    (repeat (first | with_reducible refine W.seq ?_ | with_reducible refine Ops.nil ?_ | with_reducible refine W.region ?_ | refine z_p (kk := ?_) | refine W.exit rfl ?_))
    exact W.fret rfl ⟨cvs, hO⟩
/-- Exchanged up to the pair i, j. -/
def tuC (c : List (List Int)) (i j q : Nat) : List Int := fl c.length fun x => if x < i ∨ (x = i ∧ q < j) then eC c x q else eC c q x
theorem tuC_step {c : List (List Int)} {i j q : Nat} (hi : i < c.length) : (if q = j then (tuC c i j j).set i (eC c i j) else tuC c i j q) = tuC c i (j + 1) q := by
  by_cases e : q = j
  · subst e
    rw [if_pos rfl]
    unfold tuC
    rw [fl_set]
    refine fl_congr fun x hx => ?_
    by_cases e2 : x = i
    · subst e2; simp
    · have a1 : (x < i ∨ x = i ∧ q < q) = (x < i) := by apply propext; omega
      have a2 : (x < i ∨ x = i ∧ q < q + 1) = (x < i) := by apply propext; omega
      rw [if_neg e2]
      simp only [a1, a2]
  · rw [if_neg e]
    unfold tuC
    refine fl_congr fun x hx => ?_
    have a1 : (x < i ∨ x = i ∧ q < j) = (x < i ∨ x = i ∧ q < j + 1) := by apply propext; omega
    simp only [a1]
theorem tuC_next {c : List (List Int)} {i q : Nat} (hq : q < c.length) : tuC c i c.length q = tuC c (i + 1) 0 q := by
  unfold tuC
  refine fl_congr fun x hx => ?_
  have a1 : (x < i ∨ x = i ∧ q < c.length) = (x < i + 1 ∨ x = i + 1 ∧ q < 0) := by apply propext; omega
  simp only [a1]
theorem tuC_zero {c : List (List Int)} (hC : Cst c) {q : Nat} (hq : q < c.length) : c.getD q [] = tuC c 0 0 q := by
  rw [row_fl hC hq]
  unfold tuC
  refine fl_congr fun x hx => ?_
  rw [if_neg (by omega)]
theorem tuC_end {c : List (List Int)} {q : Nat} : tuC c c.length 0 q = fl c.length fun x => eC c x q := by
  unfold tuC
  refine fl_congr fun x hx => ?_
  rw [if_pos (.inl hx)]
set_option maxHeartbeats 8000000 in
set_option maxRecDepth 20000 in
theorem turnedLaw_c {w : World} {mv lv : Value} {n : Int} {l : List (List Int)} {by_ : List Int} (hm : ArgR w mv l) (hl : Arg w lv by_) :
    Calls Try.prog 8 #[.int .i64 n, mv, lv] w (Ret fun r w' => r = .bool true ∧ Below w.heap.size w w') := by
  refine calls_W (vs := [_, _, _]) Try.func8 rfl (by kernel_rfl) rfl ?_
  (repeat (first | with_reducible refine W.seq ?_ | with_reducible refine Ops.nil ?_ | with_reducible refine W.region ?_ | refine z_p (kk := ?_)))
  refine Ops.callS rfl rfl rfl rfl rfl (mod_c _ _ _ (by omega) (by omega)) ?_
  have hmb := modI_bd n (n := 6) (by omega)
  obtain ⟨n0, hn0⟩ := Int.eq_ofNat_of_zero_le hmb.1
  rw [hn0] at hmb ⊢
  (repeat (first | with_reducible refine W.seq ?_ | with_reducible refine Ops.nil ?_ | with_reducible refine W.region ?_ | refine z_p (kk := ?_) | refine z_a (kk := ?_)))
  rw [show (1 : Int) + ((n0 : Nat) : Int) = ((n0 + 1 : Nat) : Int) by omega]
  refine Ops.call rfl rfl rfl rfl rfl (tame_c hm.1 (n := n0 + 1) (by omega) (by omega) (by omega)) (fun tv w2 hR => ?_)
  obtain ⟨cvs, hR⟩ := hR
  have hb2 := hR.o.bel
  have hA2 := hR.argR
  change ArgR w2 tv (tmC l (n0 + 1) 1000) at hA2
  have hC := tmC_cst l (n := n0 + 1) (most := 1000) (by omega) (by omega) (by omega) (by omega)
  have hcl := tmC_len l (n0 + 1) 1000
  generalize tmC l (n0 + 1) 1000 = c at *
  clear hR
  have hcB : costsB c = true := costs_iff.2 hC
  have hn7 := hC.n7
  have hM2 := hA2.1
  obtain ⟨Ac, cc, rfl⟩ := hM2.sl
  (repeat (first | with_reducible refine W.seq ?_ | with_reducible refine Ops.nil ?_ | with_reducible refine W.region ?_ | refine z_p (kk := ?_)))
  refine Ops.call rfl rfl rfl rfl rfl (order_c (Sl.below hl.1 hb2) (n := n0 + 1) (by omega)) (fun av w3 hO => ?_)
  have hb3 := hO.bel
  have hAo := ordL_asg by_ (n0 + 1)
  generalize ordL by_ (n0 + 1) = a at *
  rw [← hcl] at hAo
  have hal := hAo.1
  have hb03 := Below.via hb2 hb3
  have hA3 : ArgR w3 (.slice Ac c.length cc) c := ⟨hM2.below hb3, fun i i0 i1 => by
    obtain ⟨a, k, A', k', e1, e2, e3, e4⟩ := hA2.2 i i0 i1
    exact ⟨a, k, A', k', e1, Sl.below e2 hb3, e3, fun w' hw => e4 w' (Below.via hb3 hw)⟩⟩
  have aA3 := oi_arg hO
  clear hO hA2
  obtain ⟨Aa, ca, rfl⟩ := Sl.shape aA3.1
  have sA3 := aA3.1
  (repeat (first | with_reducible refine W.seq ?_ | with_reducible refine Ops.nil ?_ | with_reducible refine W.region ?_ | refine z_p (kk := ?_)))
  refine Ops.call rfl rfl rfl rfl rfl (table_w hA3 hC) (fun dv w4 hR => ?_)
  obtain ⟨dvs, hD4⟩ := hR
  have hb4 := hD4.o.bel
  have hD4' := hD4.congr (fun q hq => tuC_zero hC hq)
  have hM3 := hA3.1
  obtain ⟨Ad, cd, rfl⟩ := hD4.o.sh
  have hdl := hD4.len
  rw [hdl] at hD4'
  rw [hdl]
  (repeat (first | with_reducible refine W.seq ?_ | with_reducible refine Ops.nil ?_ | with_reducible refine W.region ?_ | refine z_p (kk := ?_)))
  refine Ops.mkO (Value.int .i64) 0 (i := n0 + 1) (w0 := w4) rfl rfl rfl rfl rfl rfl rfl rfl rfl (by omega) rfl (Below.refl _ _) (fun w5 rb hB5 k5 hr5 => ?_)
  rw [← hcl, fl_zero] at hB5
  rw [← hcl]
  have hb45 := hB5.bel
  have hD5 := hD4'.below hb45
  (repeat (first | with_reducible refine W.seq ?_ | with_reducible refine Ops.nil ?_ | with_reducible refine W.region ?_ | refine z_p (kk := ?_) | with_reducible refine W.block ?_))
  refine W.loop (fun m ρ w6 => ∃ (i : Nat) (f : Nat → Int), m = c.length - i ∧ i ≤ c.length ∧ ρ = [(0, .int .i64 (c.length : Int)), (7, .slice Ac c.length cc), (8, .slice Aa a.length ca), (9, .slice Ad c.length cd), (10, .slice (some ⟨rb, 0, none⟩) c.length c.length), (11, .int .i64 i)] ∧ RW w3 w6 (.slice Ad c.length cd) dvs c.length (tuC c i 0) ∧ OI 3 (Value.int .i64) w3 w6 (.slice (some ⟨rb, 0, none⟩) c.length c.length) (fl c.length f) ∧ (∀ q, q < c.length → (dvs.getD q undef).ownBlock ≠ some rb) ∧ (Value.slice Ad c.length cd).ownBlock ≠ some rb ∧ ∀ q, q < i → f (funA a q) = (q : Int))
    ⟨_, _, ⟨0, _, rfl, Nat.zero_le _, rfl, hD5, hB5.up hb4, fun q hq e => by have := ((hD4'.rows q hq).own.lt rb e).2; omega, fun e => by have := (hD4'.o.own.lt rb e).2; omega, fun q hq => by omega⟩, (by repeat (first | exact trivial | refine And.intro rfl ?_))⟩ ?_
  rintro m ρ w6 ⟨i, f, rfl, hi, rfl, hD, hB, hapt, hapo, hf⟩
  have hb6 := hD.o.bel
  (repeat (first | with_reducible refine W.seq ?_ | with_reducible refine Ops.nil ?_ | with_reducible refine W.region ?_ | refine z_p (kk := ?_)))
  (first | refine W.condD rfl (fun hc => ?_) (fun hc => ?_) | refine W.condE rfl (fun hc => ?_) (fun hc => ?_) | refine W.condN rfl (fun hc => ?_) (fun hc => ?_) | refine W.cond rfl (fun hc => ?_) (fun hc => ?_))
  · have hil : i < c.length := by omega
    (repeat (first | with_reducible refine W.seq ?_ | with_reducible refine Ops.nil ?_ | with_reducible refine W.region ?_ | refine z_p (kk := ?_) | with_reducible refine W.skip ?_ | with_reducible refine W.block ?_))
    refine W.loop (fun m ρ w7 => ∃ (j : Nat), m = c.length - j ∧ j ≤ c.length ∧ ρ = [(0, .int .i64 (c.length : Int)), (7, .slice Ac c.length cc), (8, .slice Aa a.length ca), (9, .slice Ad c.length cd), (10, .slice (some ⟨rb, 0, none⟩) c.length c.length), (11, .int .i64 i), (12, .int .i64 j)] ∧ RW w3 w7 (.slice Ad c.length cd) dvs c.length (tuC c i j) ∧ OI 3 (Value.int .i64) w3 w7 (.slice (some ⟨rb, 0, none⟩) c.length c.length) (fl c.length f))
      ⟨_, _, ⟨0, rfl, Nat.zero_le _, rfl, hD, hB⟩, (by repeat (first | exact trivial | refine And.intro rfl ?_))⟩ ?_
    clear hD hB hb6
    rintro m ρ w7 ⟨j, rfl, hj, rfl, hD, hB⟩
    have hb7 := hD.o.bel
    (repeat (first | with_reducible refine W.seq ?_ | with_reducible refine Ops.nil ?_ | with_reducible refine W.region ?_ | refine z_p (kk := ?_)))
    (first | refine W.condD rfl (fun hc => ?_) (fun hc => ?_) | refine W.condE rfl (fun hc => ?_) (fun hc => ?_) | refine W.condN rfl (fun hc => ?_) (fun hc => ?_) | refine W.cond rfl (fun hc => ?_) (fun hc => ?_))
    · have hjl : j < c.length := by omega
      have hrowj := hD.rows j hjl
      have hr1 : (dvs.getD j undef).oneCell' = true := by obtain ⟨A, c, e⟩ := hrowj.sh; rw [e]; rfl
      have hrc : row c (i : Int) = c.getD i [] := by simp [row]
      have hcli := hC.len i hil
      rw [← hrc] at hcli
      (repeat (first | with_reducible refine W.seq ?_ | with_reducible refine W.region ?_ | refine z_p (kk := ?_) | with_reducible refine W.skip ?_ | with_reducible refine W.block ?_))
      refine Ops.rdBn (enc := fun v : Value => v) (z := undef) rfl rfl rfl rfl rfl rfl (fun _ => rfl) rfl rfl rfl rfl rfl rfl hD.o.sl (Below.refl _ _) (by omega) (fun _ => ?_)
      (repeat (first | with_reducible refine Ops.nil ?_ | with_reducible refine W.region ?_ | refine z_p (kk := ?_) | refine z_I (kk := fun _ => ?_) | refine z_r (kk := fun _ _ _ _ => ?_)))
      have hent : (row c (i : Int)).getD j 0 = eC c i j := by rw [hrc]; rfl
      refine Ops.wrO (enc := Value.int .i64) (u := (row c (i : Int)).getD j 0) rfl rfl rfl rfl rfl rfl rfl rfl rfl rfl rfl rfl (by simp) rfl hrowj (by unfold tuC; rw [fl_len]; omega) (fun w8 p hO8 k8 hs8 => ?_)
      have hD8 := (hD.wrow hjl hO8 k8).congr (T' := tuC c i (j + 1)) (fun q hq => by
        rw [hent]
        exact tuC_step hil)
      have hB8 := hB.kp k8 (fun b e => ⟨hrowj.ge b e, fun e2 => by have := own_r e2; subst this; exact hapt j hjl e⟩)
      (repeat (first | with_reducible refine Ops.nil ?_ | with_reducible refine W.region ?_ | refine z_p (kk := ?_) | refine z_a (kk := ?_) | with_reducible refine W.endb ?_))
      exact W.endl ⟨_, _, ⟨⟨j + 1, rfl, by omega, rfl, hD8, hB8⟩, by omega⟩, (by repeat (first | exact trivial | refine And.intro rfl ?_))⟩
    · have hjl : j = c.length := by omega
      subst hjl
      have hai := (hAo.2 i (by omega)).1
      have hfi := hAo.funA hil
      (repeat (first | with_reducible refine W.region ?_ | refine z_p (kk := ?_) | refine W.exit rfl ?_ | refine z_I (kk := fun _ => ?_)))
      refine Ops.wrOi (enc := Value.int .i64) (u := (i : Int)) rfl rfl rfl rfl rfl rfl rfl rfl rfl rfl rfl rfl (by simp) rfl hB (by omega) (by rw [fl_len]; omega) (fun w8 p hO8 k8 hs8 => ?_)
      rw [fl_set] at hO8
      have hD8 := (hD.congr (fun q hq => tuC_next hq)).kp k8 (fun b e => by
        have := own_r e
        subst this
        exact ⟨hB.ge _ rfl, hapo, hapt⟩)
      (repeat (first | with_reducible refine Ops.nil ?_ | with_reducible refine W.region ?_ | refine z_p (kk := ?_) | refine z_a (kk := ?_) | with_reducible refine W.endb ?_))
      refine W.endl ⟨_, _, ⟨⟨i + 1, _, rfl, by omega, rfl, hD8, hO8, hapt, hapo, fun q hq => ?_⟩, by omega⟩, (by repeat (first | exact trivial | refine And.intro rfl ?_))⟩
      by_cases e : q = i
      · subst e
        have e2 : funA a q = (a.getD q 0).toNat := rfl
        rw [if_pos e2]
      · have hne := hAo.ne (i := q) (q := i) (by omega) hil e
        have e2 : ¬ funA a q = (a.getD i 0).toNat := hne
        rw [if_neg e2]
        exact hf q (by omega)
  · have hil : i = c.length := by omega
    subst hil
    have hMd0 := (hD.congr (T' := fun q => fl c.length fun x => eC c x q) (fun q hq => tuC_end)).rowsM
    have hMd : RowsM w6 (.slice Ad c.length cd) (trC c) := hMd0
    have hbk : Inv a (fl c.length f) c.length := ⟨fl_len _ _, fun q hq => by rw [fl_get (hAo.funA hq).2]; exact hf q hq⟩
    have hbA := hbk.asg hAo
    have aB := oi_arg hB
    have hM6 := hM3.below hb6
    have aA6 := aA3.below hb6
    have hb06 := Below.via hb03 hb6
    have hCd := trC_cst hC
    have hcBd : costsB (trC c) = true := costs_iff.2 hCd
    have hdl2 := trC_len c
    have htt := turn_tot hAo hbk
    have hmin := turn_min hC
    have hle := min_le hAo
    clear hD hB hMd0 hD4 hD4' hD5 hB5 hM3 hA3 aA3
    generalize fl c.length f = bk at *
    (repeat (first | with_reducible refine W.seq ?_ | with_reducible refine W.region ?_ | refine z_p (kk := ?_) | refine W.exit rfl ?_))
    refine Ops.call rfl rfl rfl rfl rfl (Total_c hM6 aA6) (fun r x1 hR => ?_)
    obtain ⟨rfl, hx1⟩ := hR
    rw [if_pos ⟨hcB, hAo⟩]
    have hMd1 := hMd.below hx1
    have aB1 := aB.below hx1
    have hM1 := hM6.below hx1
    have g1 := Below.via hb06 hx1
    (repeat (first | with_reducible refine W.seq ?_ | with_reducible refine Ops.nil ?_ | with_reducible refine W.region ?_ | refine z_p (kk := ?_)))
    refine Ops.call rfl rfl rfl rfl rfl (Total_c hMd1 aB1) (fun r x2 hR => ?_)
    obtain ⟨rfl, hx2⟩ := hR
    rw [hdl2, if_pos ⟨hcBd, hbA⟩, htt]
    have hMd2 := hMd1.below hx2
    have hM2 := hM1.below hx2
    have g2 := Below.via g1 hx2
    (repeat (first | with_reducible refine W.seq ?_ | with_reducible refine Ops.nil ?_ | with_reducible refine W.region ?_ | refine z_p (kk := ?_)))
    refine Ops.call rfl rfl rfl rfl rfl (Best_c hM2) (fun r x3 hR => ?_)
    obtain ⟨hx3, -, hR⟩ := hR
    obtain ⟨pv, uv, vv, u, v, rfl, hp, -, -, -⟩ := hR hcB
    have aP3 := oi_arg hp
    clear hp
    have hMd3 := hMd2.below hx3
    have hM3 := hM2.below hx3
    have g3 := Below.via g2 hx3
    (repeat (first | with_reducible refine W.seq ?_ | with_reducible refine Ops.nil ?_ | with_reducible refine W.region ?_ | refine z_p (kk := ?_)))
    refine Ops.call rfl rfl rfl rfl rfl (Best_c hMd3) (fun r x4 hR => ?_)
    obtain ⟨hx4, -, hR⟩ := hR
    obtain ⟨qv, uv', vv', u', v', rfl, hq, -, -, -⟩ := hR hcBd
    have aQ4 := oi_arg hq
    clear hq
    have hMd4 := hMd3.below hx4
    have hM4 := hM3.below hx4
    have aP4 := aP3.below hx4
    have g4 := Below.via g3 hx4
    (repeat (first | with_reducible refine W.seq ?_ | with_reducible refine Ops.nil ?_ | with_reducible refine W.region ?_ | refine z_p (kk := ?_)))
    refine Ops.call rfl rfl rfl rfl rfl (Total_c hM4 aP4) (fun r x5 hR => ?_)
    obtain ⟨rfl, hx5⟩ := hR
    rw [if_pos ⟨hcB, firstS_Asg⟩, first_tot]
    have hMd5 := hMd4.below hx5
    have hM5 := hM4.below hx5
    have aQ5 := aQ4.below hx5
    have g5 := Below.via g4 hx5
    have hfq := first_tot (c := trC c)
    have hfA := firstS_Asg (c := trC c)
    (repeat (first | with_reducible refine W.seq ?_ | with_reducible refine Ops.nil ?_ | with_reducible refine W.region ?_ | refine z_p (kk := ?_)))
    refine Ops.call rfl rfl rfl rfl rfl (Total_c hMd5 aQ5) (fun r x6 hR => ?_)
    obtain ⟨rfl, hx6⟩ := hR
    rw [if_pos ⟨hcBd, hfA⟩, hfq, hmin]
    have hMd6 := hMd5.below hx6
    have hM6' := hM5.below hx6
    have g6 := Below.via g5 hx6
    (repeat (first | with_reducible refine W.seq ?_ | with_reducible refine Ops.nil ?_ | with_reducible refine W.region ?_ | refine z_p (kk := ?_)))
    refine Ops.call rfl rfl rfl rfl rfl (Narrow_c hM6') (fun r x7 hR => ?_)
    obtain ⟨hx7, -, hR⟩ := hR
    obtain ⟨nv, y, bv, na, nb, rfl, -, -, hN⟩ := hR hcB
    have hMd7 := hMd6.below hx7
    have hM7 := hM6'.below hx7
    have g7 := Below.via g6 hx7
    (repeat (first | with_reducible refine W.seq ?_ | with_reducible refine Ops.nil ?_ | with_reducible refine W.region ?_ | refine z_p (kk := ?_)))
    refine Ops.call rfl rfl rfl rfl rfl (Narrow_c hMd7) (fun r x8 hR => ?_)
    obtain ⟨hx8, -, hR⟩ := hR
    obtain ⟨nv', y', bv', na', nb', rfl, -, -, hN'⟩ := hR hcBd
    obtain rfl := turn_wid hC hN hN'
    have hMd8 := hMd7.below hx8
    have hM8 := hM7.below hx8
    have g8 := Below.via g7 hx8
    (repeat (first | with_reducible refine W.seq ?_ | with_reducible refine Ops.nil ?_ | with_reducible refine W.region ?_ | refine z_p (kk := ?_)))
    refine Ops.call rfl rfl rfl rfl rfl (Within_c hM8) (fun r x9 hR => ?_)
    obtain ⟨rfl, hx9⟩ := hR
    rw [if_pos hcB, turn_cnt hC]
    have hMd9 := hMd8.below hx9
    have g9 := Below.via g8 hx9
    (repeat (first | with_reducible refine W.seq ?_ | with_reducible refine Ops.nil ?_ | with_reducible refine W.region ?_ | refine z_p (kk := ?_)))
    refine Ops.call rfl rfl rfl rfl rfl (Within_c hMd9) (fun r x10 hR => ?_)
    obtain ⟨rfl, hx10⟩ := hR
    rw [if_pos hcBd, hdl2]
    have g10 := Below.via g9 hx10
    (repeat (first | with_reducible refine W.seq ?_ | with_reducible refine Ops.nil ?_ | with_reducible refine W.region ?_ | refine z_p (kk := ?_) | refine z_y (kk := ?_) | refine z_h (kk := ?_)))
    refine Ops.call rfl rfl rfl rfl rfl (awake_c _) (fun r x11 hR => ?_)
    obtain ⟨rfl, hx11⟩ := hR
    (repeat (first | with_reducible refine Ops.nil ?_ | refine z_p (kk := ?_)))
    exact W.fret rfl ⟨rfl, Below.via g10 hx11⟩
end Go.Proofs.Ytehjmakiljhjdaa
namespace Go.Proofs.Ytehjmakiljhjdaa
open Go Go.RowKit Go.Proofs.Ytehjmakiljhjdaa.VW
attribute [local irreducible] W Ops OrdA VW.Ord OrdX
set_option maxHeartbeats 8000000 in
set_option maxRecDepth 20000 in
theorem bestsLaw_c {w : World} {mv : Value} {l : List (List Int)} (hm : ArgR w mv l) :
    Calls Try.prog 11 #[mv] w (Ret fun r w' => r = .bool true ∧ Below w.heap.size w w') := by
  refine calls_W (vs := [_]) Try.func11 rfl (by kernel_rfl) rfl ?_
  (repeat (first | with_reducible refine W.seq ?_ | with_reducible refine Ops.nil ?_ | with_reducible refine W.region ?_ | refine z_p (kk := ?_)))
  refine Ops.call rfl rfl rfl rfl rfl (table_c hm) (fun tv w2 hR => ?_)
  obtain ⟨cvs, hR⟩ := hR
  have hb2 := hR.o.bel
  have hM2 := hR.rowsM
  clear hR hm
  generalize tab l = c at *
  obtain ⟨At, ct, rfl⟩ := hM2.sl
  (repeat (first | with_reducible refine W.seq ?_ | with_reducible refine Ops.nil ?_ | with_reducible refine W.region ?_ | refine z_p (kk := ?_)))
  refine Ops.call rfl rfl rfl rfl rfl (Best_c hM2) (fun r w3 hR => ?_)
  obtain ⟨hb3, hR0, hR1⟩ := hR
  have hM3 := hM2.below hb3
  cases hc : costsB c with
  | false =>
    obtain rfl := hR0 hc
    (repeat (first | with_reducible refine W.seq ?_ | with_reducible refine Ops.nil ?_ | with_reducible refine W.region ?_ | refine z_p (kk := ?_)))
    refine Ops.call rfl rfl rfl rfl rfl (Greedy_c hM3) (fun r w4 hR => ?_)
    obtain ⟨hb4, hR0, -⟩ := hR
    obtain rfl := hR0 hc
    (repeat (first | with_reducible refine W.seq ?_ | with_reducible refine Ops.nil ?_ | with_reducible refine W.region ?_ | refine z_p (kk := ?_)))
    refine Ops.call rfl rfl rfl rfl rfl (refCosts_c (hM3.below hb4)) (fun r w5 hR => ?_)
    obtain ⟨rfl, hb5⟩ := hR
    rw [hc]
    (repeat (first | with_reducible refine Ops.nil ?_ | refine z_p (kk := ?_)))
    refine W.condT rfl (by first | rfl | assumption | (simp only [bnf] <;> omega) | (simp only [*, bnf]; done) | fail) ?_
    (repeat (first | with_reducible refine W.seq ?_ | with_reducible refine W.region ?_ | refine z_p (kk := ?_) | refine z_y (kk := ?_) | refine z_l (kk := ?_)))
    refine Ops.call rfl rfl rfl rfl rfl (awake_c _) (fun r w6 hR => ?_)
    obtain ⟨rfl, hb6⟩ := hR
    (repeat (first | with_reducible refine Ops.nil ?_ | refine z_p (kk := ?_)))
    exact W.fret rfl ⟨rfl, Below.via hb2 (Below.via hb3 (Below.via hb4 (Below.via hb5 hb6)))⟩
  | true =>
    obtain ⟨av, uv, vv, u, v, rfl, ha, hu, hv, hP⟩ := hR1 hc
    have hC := costs_iff.1 hc
    have hn7 := hC.n7
    (repeat (first | with_reducible refine W.seq ?_ | with_reducible refine Ops.nil ?_ | with_reducible refine W.region ?_ | refine z_p (kk := ?_)))
    refine Ops.call rfl rfl rfl rfl rfl (Greedy_c hM3) (fun r w4 hR => ?_)
    obtain ⟨hb4, -, hR⟩ := hR
    obtain ⟨gv, os, rfl, hper, hsrt, hG⟩ := hR hc
    have hM4 := hM3.below hb4
    (repeat (first | with_reducible refine W.seq ?_ | with_reducible refine Ops.nil ?_ | with_reducible refine W.region ?_ | refine z_p (kk := ?_)))
    refine Ops.call rfl rfl rfl rfl rfl (refCosts_c hM4) (fun r w5 hR => ?_)
    obtain ⟨rfl, hb5⟩ := hR
    have hM5 := hM4.below hb5
    rw [hc]
    (repeat (first | with_reducible refine Ops.nil ?_ | refine z_p (kk := ?_)))
    refine W.condF rfl (by first | rfl | assumption | (simp only [bnf] <;> omega) | (simp only [*, bnf]; done) | fail) ?_
    (repeat (first | with_reducible refine W.seq ?_ | with_reducible refine W.region ?_ | refine z_p (kk := ?_) | with_reducible refine W.skip ?_))
    refine Ops.call rfl rfl rfl rfl rfl (refItem0_c hM5 hC) (fun iv w6 hR => ?_)
    obtain ⟨hI, hb6⟩ := hR
    have hM6 := hM5.below hb6
    have hb36 := Below.via hb4 (Below.via hb5 hb6)
    have hA6 := ha.below hb36
    have hU6 := hu.below hb36
    have hV6 := hv.below hb36
    skip
    refine Ops.call rfl rfl rfl rfl rfl (ints_c (hA6.sl (z := (0 : Int))) hI) (fun r w7 hR => ?_)
    obtain ⟨rfl, hb7⟩ := hR
    rw [decide_eq_true rfl]
    have hM7 := hM6.below hb7
    have hA7 := hA6.below hb7
    have hU7 := hU6.below hb7
    have hV7 := hV6.below hb7
    (repeat (first | refine z_p (kk := ?_) | refine z_y (kk := ?_)))
    refine Ops.call rfl rfl rfl rfl rfl (proves_c hM7 hC (hA7.sl (z := (0 : Int))) (hU7.sl (z := (0 : Int))) (hV7.sl (z := (0 : Int)))) (fun r w8 hR => ?_)
    obtain ⟨rfl, hb8⟩ := hR
    rw [decide_eq_true hP]
    have hM8 := hM7.below hb8
    (repeat (first | refine z_p (kk := ?_) | refine z_y (kk := ?_)))
    refine Ops.call rfl rfl rfl rfl rfl (Check_c hM8 (oi_arg (hA7.below hb8)) ((hU7.below hb8).sl (z := (0 : Int))) ((hV7.below hb8).sl (z := (0 : Int)))) (fun r w9 hR => ?_)
    obtain ⟨rfl, hb9⟩ := hR
    rw [if_pos hc, if_pos hP]
    have hM9 := hM8.below hb9
    (repeat (first | refine z_p (kk := ?_) | refine z_y (kk := ?_)))
    refine Ops.call rfl rfl rfl rfl rfl (refGreedy_c hM9 hC hper hsrt) (fun gv2 w10 hG2 => ?_)
    have hb10 := hG2.bel
    have hb610 := Below.via hb7 (Below.via hb8 (Below.via hb9 hb10))
    have hb410 := Below.via hb5 (Below.via hb6 hb610)
    have hG10 := hG.below hb410
    (repeat (first | refine z_y (kk := ?_)))
    refine Ops.call rfl rfl rfl rfl rfl (ints_c (hG10.sl (z := (0 : Int))) (hG2.sl (z := (0 : Int)))) (fun r w11 hR => ?_)
    obtain ⟨rfl, hb11⟩ := hR
    rw [decide_eq_true rfl]
    (repeat (first | refine z_p (kk := ?_) | refine z_y (kk := ?_)))
    refine Ops.call rfl rfl rfl rfl rfl (awake_c _) (fun r w12 hR => ?_)
    obtain ⟨rfl, hb12⟩ := hR
    (repeat (first | with_reducible refine Ops.nil ?_ | refine z_p (kk := ?_)))
    exact W.fret rfl ⟨rfl, Below.via hb2 (Below.via hb3 (Below.via hb4 (Below.via (Below.via hb5 (Below.via hb6 hb610)) (Below.via hb11 hb12))))⟩
end Go.Proofs.Ytehjmakiljhjdaa
