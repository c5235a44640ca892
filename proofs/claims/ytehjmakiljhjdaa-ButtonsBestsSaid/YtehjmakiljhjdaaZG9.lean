/- A part of the walk: what this seat's statements share. -/
import Derived.Test.YtehjmakiljhjdaaZG8
import Derived.Test.YtehjmakiljhjdaaZG5
import Derived.Test.YtehjmakiljhjdaaZG6
import Derived.Test.YtehjmakiljhjdaaZG2
import Derived.Test.YtehjmakiljhjdaaZG4
import Derived.ChangeSlices
import Derived.ChangeArms
import Derived.OpenShut
set_option linter.unusedVariables false
set_option linter.unusedSimpArgs false
set_option linter.unusedSectionVars false
namespace Go.Proofs.Ytehjmakiljhjdaa
open Go Go.RowKit Go.Proofs.Ytehjmakiljhjdaa.VW
attribute [local irreducible] W Ops OrdA VW.Ord OrdX
/-- The width of the first i buttons, and the first one's. -/
def widS (c : List (List Int)) (a : List Int) : Nat → Int
  | 0 => (c.getD 0 []).getD (a.getD 0 0).toNat 0
  | i + 1 => max (widS c a i) ((c.getD i []).getD (a.getD i 0).toNat 0)
set_option maxHeartbeats 1000000 in
theorem Width_c {w : World} {cv v : Value} {c : List (List Int)} {xs : List Int} (hM : RowsM w cv c) (hC : Cst c) (h : SlI w v xs) (ha : ∀ i, i < xs.length → 0 ≤ xs.getD i 0 ∧ xs.getD i 0 < c.length) (hlen : xs.length = c.length) : Calls Try.prog 24 #[cv, v] w (Ret fun r w' => r = .int .i64 (widS c xs xs.length) ∧ Below w.heap.size w w') := by
  have hl := Sl.len h
  have hn7 := hC.n7
  have hn1 := hC.n1
  obtain ⟨Ac, cc, rfl⟩ := hM.sl
  obtain ⟨A, k, rfl⟩ := Sl.shape h
  have ha0 := ha (Int.toNat 0) (by simp; omega)
  have hr0 : row c 0 = c.getD 0 [] := by simp [row]
  have hl0 := hC.len 0 (by omega)
  rw [← hr0] at hl0
  refine calls_W (vs := [_, _]) Try.func24 rfl (by kernel_rfl) rfl ?_
  (repeat (first | with_reducible refine W.seq ?_ | with_reducible refine Ops.nil ?_ | with_reducible refine W.region ?_ | refine z_p (kk := ?_)))
  refine W.ordA 99 [(0, 1), (1, 1), (2, 2), (3, 1), (4, 1), (5, 2), (6, 1), (7, 2), (8, 1)] rfl (by kernel_rfl) rfl (by kernel_rfl) (fun _ _ _ h => h) ?_
  (repeat (first | refine x_p (kk := ?_) | refine x_K (kk := fun _ => ?_) | refine x_r (kk := fun _ _ _ _ => ?_)))
  refine OrdA.nil (fun w0 hb0 => ?_)
  (repeat (first | with_reducible refine W.seq ?_ | with_reducible refine Ops.nil ?_ | with_reducible refine W.region ?_ | refine z_p (kk := ?_) | with_reducible refine W.block ?_))
  refine W.loop (fun m ρ w1 => ∃ (i : Nat), m = xs.length - i ∧ i ≤ xs.length ∧ ρ = [(0, .slice Ac c.length cc), (1, .slice A xs.length k), (5, .int .i64 (widS c xs i)), (6, .int .i64 i)] ∧ Below w.heap.size w w1)
    ⟨_, _, ⟨0, rfl, Nat.zero_le _, rfl, hb0⟩, by rw [widS, ← hr0]; exact (by repeat (first | exact trivial | refine And.intro rfl ?_))⟩ ?_
  rintro m ρ w1 ⟨i, rfl, hi, rfl, hb1⟩
  (repeat (first | with_reducible refine W.seq ?_ | with_reducible refine Ops.nil ?_ | with_reducible refine W.region ?_ | refine z_p (kk := ?_) | refine z_l (kk := ?_)))
  (first | refine W.condD rfl (fun hc => ?_) (fun hc => ?_) | refine W.condE rfl (fun hc => ?_) (fun hc => ?_) | refine W.condN rfl (fun hc => ?_) (fun hc => ?_) | refine W.cond rfl (fun hc => ?_) (fun hc => ?_))
  · have hil : i < xs.length := by omega
    have hai := ha i hil
    have hcl := hC.len i (by omega)
    have hrow : row c (i : Int) = c.getD i [] := by simp [row]
    rw [← hrow] at hcl
    (repeat (first | with_reducible refine W.seq ?_ | with_reducible refine W.skip ?_ | with_reducible refine W.block ?_))
    refine W.ordA 99 [(0, 1), (1, 1), (2, 1), (3, 1), (4, 2), (5, 1), (6, 1), (7, 1), (8, 2), (9, 1), (10, 2), (11, 1), (12, 1)] rfl (by kernel_rfl) rfl (by kernel_rfl) (fun _ _ _ h => h) ?_
    (repeat (first | refine x_p (kk := ?_) | refine x_M (kk := ?_) | refine x_I (kk := fun _ => ?_) | refine x_K (kk := fun _ => ?_) | refine x_r (kk := fun _ _ _ _ => ?_)))
    refine OrdA.nil (fun w2 hb2 => ?_)
    have hb02 := Below.via hb1 hb2
    (repeat (first | with_reducible refine Ops.nil ?_ | with_reducible refine W.region ?_ | refine z_p (kk := ?_) | refine z_a (kk := ?_) | with_reducible refine W.endb ?_))
    refine W.endl ⟨_, _, ⟨⟨i + 1, rfl, by omega, rfl, hb02⟩, by omega⟩, ?_⟩
    simp only [widS, ← hrow]
    exact (by repeat (first | exact trivial | refine And.intro rfl ?_))
  · have hil : i = xs.length := by omega
    subst hil
    (repeat (first | with_reducible refine W.seq ?_ | with_reducible refine Ops.nil ?_ | with_reducible refine W.region ?_ | refine z_p (kk := ?_) | refine W.exit rfl ?_))
    exact W.fret rfl ⟨rfl, hb1⟩
/-- The first one with the smallest width, among the first ones of all. -/
def narI (c : List (List Int)) : Nat → Nat
  | 0 => 0
  | i + 1 => if widS c ((allL c.length).getD i []) c.length < widS c ((allL c.length).getD (narI c i) []) c.length then i else narI c i
theorem narI_le (c : List (List Int)) : ∀ i, i ≤ (allL c.length).length → narI c i < (allL c.length).length
  | 0, _ => allL_pos
  | i + 1, h => by
    have := narI_le c i (by omega)
    simp only [narI]
    split <;> omega
theorem all_asg {n i : Nat} (h : i < (allL n).length) : Asg ((allL n).getD i []) n := mem_allL.1 (getD_memR h)
set_option maxHeartbeats 1000000 in
theorem refNarrow_c {w : World} {cv : Value} {c : List (List Int)} (hM : RowsM w cv c) (hC : Cst c) : Calls Try.prog 22 #[cv] w (Ret fun r w' => SlI w' r ((allL c.length).getD (narI c (allL c.length).length) []) ∧ Below w.heap.size w w') := by
  have hn7 := hC.n7
  have hL := levL_lt (n := c.length) (i := c.length) hn7 hn7
  have hpos := allL_pos (n := c.length)
  change (allL c.length).length ≤ 823543 at hL
  obtain ⟨Ac, cc, rfl⟩ := hM.sl
  refine calls_W (vs := [_]) Try.func22 rfl (by kernel_rfl) rfl ?_
  (repeat (first | with_reducible refine W.seq ?_ | with_reducible refine Ops.nil ?_ | with_reducible refine W.region ?_ | refine z_p (kk := ?_) | refine z_l (kk := ?_)))
  refine Ops.call rfl rfl rfl rfl rfl (All_c hn7) (fun r w1 hR => ?_)
  obtain ⟨lvs, hR⟩ := hR
  have hb1 := hR.o.bel
  have hML := hR.rowsM
  obtain ⟨AL, cL, rfl⟩ := hML.sl
  have hrow : ∀ i : Nat, row (allL c.length) i = (allL c.length).getD i [] := fun i => by simp [row]
  have hasg : ∀ i : Nat, i < (allL c.length).length → Asg (row (allL c.length) i) c.length := fun i hi => by rw [hrow]; exact all_asg hi
  (repeat (first | with_reducible refine W.seq ?_ | with_reducible refine Ops.nil ?_ | with_reducible refine W.region ?_ | refine z_p (kk := ?_) | with_reducible refine W.block ?_ | refine z_r (kk := fun _ _ _ _ => ?_)))
  rename_i A0 m0 _ hs0
  rw [show (row (allL c.length) 0).length = c.length from (hasg 0 hpos).1, show row (allL c.length) 0 = (allL c.length).getD (narI c 0) [] by simp [row, narI]] at hs0
  rw [show (row (allL c.length) 0).length = c.length from (hasg 0 hpos).1]
  refine W.loop (fun m ρ w3 => ∃ (i : Nat) (Ab : Option Addr) (mb : Nat), m = (allL c.length).length - i ∧ i ≤ (allL c.length).length ∧ ρ = [(0, .slice Ac c.length cc), (3, .slice AL (allL c.length).length cL), (4, .slice Ab c.length mb), (5, .int .i64 i)] ∧ Below w1.heap.size w1 w3 ∧ SlI w1 (.slice Ab c.length mb) ((allL c.length).getD (narI c i) []))
    ⟨_, _, ⟨0, A0, m0, rfl, Nat.zero_le _, rfl, Below.refl _ _, hs0⟩, (by repeat (first | exact trivial | refine And.intro rfl ?_))⟩ ?_
  rintro m ρ w3 ⟨i, Ab, mb, rfl, hi, rfl, hb3, hsb⟩
  have hb03 := Below.via hb1 hb3
  have hnb := narI_le c i hi
  have hab := all_asg hnb
  (repeat (first | with_reducible refine W.seq ?_ | with_reducible refine Ops.nil ?_ | with_reducible refine W.region ?_ | refine z_p (kk := ?_) | refine z_l (kk := ?_)))
  (first | refine W.condD rfl (fun hc => ?_) (fun hc => ?_) | refine W.condE rfl (fun hc => ?_) (fun hc => ?_) | refine W.condN rfl (fun hc => ?_) (fun hc => ?_) | refine W.cond rfl (fun hc => ?_) (fun hc => ?_))
  · have hil : i < (allL c.length).length := by omega
    have hai := hasg i hil
    (repeat (first | with_reducible refine W.seq ?_ | with_reducible refine W.region ?_ | refine z_p (kk := ?_) | with_reducible refine W.skip ?_ | with_reducible refine W.block ?_ | refine z_r (kk := fun _ _ _ _ => ?_)))
    rename_i Ai mi _ hsi
    refine Ops.call rfl rfl rfl rfl rfl (Width_c (hM.below hb03) hC (Sl.below hsi hb3) (fun q hq => (hai.2 q hq).1) hai.1) (fun r w4 hR => ?_)
    obtain ⟨rfl, hb4⟩ := hR
    have hb14 := Below.via hb3 hb4
    (repeat (first | refine z_p (kk := ?_)))
    refine Ops.call rfl rfl rfl rfl rfl (Width_c (hM.below (Below.via hb03 hb4)) hC (Sl.below hsb hb14) (fun q hq => (hab.2 q hq).1) hab.1) (fun r w5 hR => ?_)
    obtain ⟨rfl, hb5⟩ := hR
    have hb15 := Below.via hb14 hb5
    rw [hai.1, hab.1, hrow]
    by_cases hlt : widS c ((allL c.length).getD i []) c.length < widS c ((allL c.length).getD (narI c i) []) c.length
    · (repeat (first | with_reducible refine Ops.nil ?_ | refine z_p (kk := ?_)))
      refine W.condT rfl (by first | rfl | assumption | (simp only [bnf] <;> omega) | (simp only [*, bnf]; done) | fail) ?_
      (repeat (first | with_reducible refine Ops.nil ?_ | with_reducible refine W.region ?_ | refine z_p (kk := ?_) | refine z_a (kk := ?_) | with_reducible refine W.endb ?_ | refine z_r (kk := fun _ _ _ _ => ?_)))
      rename_i Aj mj _ hsj
      rw [hai.1] at hsj ⊢
      skip
      refine W.endl ⟨_, _, ⟨⟨i + 1, Aj, mj, rfl, by omega, rfl, hb15, ?_⟩, by omega⟩, (by repeat (first | exact trivial | refine And.intro rfl ?_))⟩
      rw [narI, if_pos hlt, ← hrow]
      exact hsj
    · (repeat (first | with_reducible refine Ops.nil ?_ | refine z_p (kk := ?_)))
      refine W.condF rfl (by first | rfl | assumption | (simp only [bnf] <;> omega) | (simp only [*, bnf]; done) | fail) ?_
      (repeat (first | with_reducible refine Ops.nil ?_ | with_reducible refine W.region ?_ | refine z_p (kk := ?_) | refine z_a (kk := ?_) | with_reducible refine W.skip ?_ | with_reducible refine W.endb ?_))
      refine W.endl ⟨_, _, ⟨⟨i + 1, Ab, mb, rfl, by omega, rfl, hb15, ?_⟩, by omega⟩, (by repeat (first | exact trivial | refine And.intro rfl ?_))⟩
      rw [narI, if_neg hlt]
      exact hsb
  · have hil : i = (allL c.length).length := by omega
    subst hil
    (repeat (first | with_reducible refine W.seq ?_ | with_reducible refine Ops.nil ?_ | with_reducible refine W.region ?_ | refine z_p (kk := ?_) | refine W.exit rfl ?_))
    exact W.fret rfl ⟨Sl.below hsb hb3, hb03⟩
end Go.Proofs.Ytehjmakiljhjdaa
namespace Go.Proofs.Ytehjmakiljhjdaa
open Go Go.RowKit Go.Proofs.Ytehjmakiljhjdaa.VW
attribute [local irreducible] W Ops OrdA VW.Ord OrdX
theorem any_takeI {p : Int → Bool} {l : List Int} {k : Nat} (h : k < l.length) : (l.take (k + 1)).any p = ((l.take k).any p || p (l.getD k 0)) := any_take h
theorem filt_succ (p : Nat → Bool) (m : Nat) : ((List.range (m + 1)).filter p).length = ((List.range m).filter p).length + if p m then 1 else 0 := by
  rw [List.range_succ, List.filter_append, List.length_append]
  congr 1
  by_cases h : p m <;> simp [h]
set_option maxHeartbeats 2000000 in
theorem refBlock_c {w : World} {cv lv : Value} {c : List (List Int)} {x : Int} {l : List Int} (hM : RowsM w cv c) (hC : Cst c) (h : SlI w lv l) : Calls Try.prog 25 #[cv, .int .i64 x, lv] w (Ret fun r w' => r = .bool (decide (BlkS c x l)) ∧ Below w.heap.size w w') := by
  have hl := Sl.len h
  have hn7 := hC.n7
  have hn1 := hC.n1
  obtain ⟨Ac, cc, rfl⟩ := hM.sl
  obtain ⟨A, k, rfl⟩ := Sl.shape h
  have hdec : (BlkS c x l → False) → Value.bool false = Value.bool (decide (BlkS c x l)) := fun h2 => by rw [decide_eq_false h2]
  refine calls_W (vs := [_, _, _]) Try.func25 rfl (by kernel_rfl) rfl ?_
  (repeat (first | with_reducible refine W.seq ?_ | with_reducible refine Ops.nil ?_ | with_reducible refine W.region ?_ | refine z_p (kk := ?_) | with_reducible refine W.block ?_ | refine z_l (kk := ?_)))
  refine W.loop (fun m ρ w1 => ∃ (i : Nat), m = l.length - i ∧ i ≤ l.length ∧ ρ = [(0, .slice Ac c.length cc), (1, .int .i64 x), (2, .slice A l.length k), (7, .int .i64 c.length), (8, .int .i64 i)] ∧ Below w.heap.size w w1 ∧ ∀ q, q < i → (0 ≤ l.getD q 0 ∧ l.getD q 0 < c.length) ∧ (0 < q → l.getD (q - 1) 0 < l.getD q 0))
    ⟨_, _, ⟨0, rfl, Nat.zero_le _, rfl, Below.refl _ _, fun q hq => by omega⟩, (by repeat (first | exact trivial | refine And.intro rfl ?_))⟩ ?_
  rintro m ρ w1 ⟨i, rfl, hi, rfl, hb1, hok⟩
  (repeat (first | with_reducible refine W.seq ?_ | with_reducible refine Ops.nil ?_ | with_reducible refine W.region ?_ | refine z_p (kk := ?_) | refine z_l (kk := ?_)))
  (first | refine W.condD rfl (fun hc => ?_) (fun hc => ?_) | refine W.condE rfl (fun hc => ?_) (fun hc => ?_) | refine W.condN rfl (fun hc => ?_) (fun hc => ?_) | refine W.cond rfl (fun hc => ?_) (fun hc => ?_))
  · have hil : i < l.length := by omega
    have hbad : ¬ ((0 ≤ l.getD i 0 ∧ l.getD i 0 < c.length) ∧ (0 < i → l.getD (i - 1) 0 < l.getD i 0)) → Value.bool false = Value.bool (decide (BlkS c x l)) := fun h => hdec (fun k => h (k.1 i hil))
    (repeat (first | with_reducible refine W.seq ?_ | with_reducible refine W.skip ?_ | with_reducible refine W.block ?_))
    by_cases h0 : l.getD i 0 < 0
    · refine W.ordA 99 [(0, 1), (1, 1), (2, 1), (3, 2), (4, 1), (5, 1), (6, 1), (7, 1), (8, 1), (9, 1), (10, 1), (11, 1), (12, 1), (13, 1), (14, 1), (15, 1), (16, 1), (17, 1), (18, 1), (19, 1), (20, 1), (21, 1), (22, 1), (23, 1), (24, 1), (25, 1), (26, 1), (27, 1), (28, 1)] rfl (by kernel_rfl) rfl (by kernel_rfl) (fun _ _ _ h => h) ?_
      (repeat (first | refine x_p (kk := ?_) | refine x_n (kk := ?_) | refine x_I (kk := fun _ => ?_) | refine x_t (kk := ?_)))
      refine OrdA.nil (fun w2 hb2 => ?_)
      skip
      refine W.condT rfl (by first | rfl | assumption | (simp only [bnf] <;> omega) | (simp only [*, bnf]; done) | fail) ?_
      (repeat (first | with_reducible refine W.seq ?_ | with_reducible refine Ops.nil ?_ | with_reducible refine W.region ?_ | refine z_p (kk := ?_)))
      exact W.fret rfl ⟨hbad (fun h => by omega), Below.via hb1 hb2⟩
    · by_cases h1 : l.getD i 0 ≥ c.length
      · refine W.ordA 99 [(0, 1), (1, 1), (2, 1), (3, 2), (4, 1), (5, 1), (6, 1), (7, 1), (8, 1), (9, 2), (10, 1), (11, 1), (12, 1), (13, 1), (14, 1), (15, 1), (16, 1), (17, 1), (18, 1), (19, 1), (20, 1), (21, 1), (22, 1), (23, 1), (24, 1), (25, 1), (26, 1), (27, 1), (28, 1)] rfl (by kernel_rfl) rfl (by kernel_rfl) (fun _ _ _ h => h) ?_
        (repeat (first | refine x_p (kk := ?_) | refine x_n (kk := ?_) | refine x_I (kk := fun _ => ?_) | refine x_t (kk := ?_) | refine x_f (kk := ?_)))
        refine OrdA.nil (fun w2 hb2 => ?_)
        skip
        refine W.condT rfl (by first | rfl | assumption | (simp only [bnf] <;> omega) | (simp only [*, bnf]; done) | fail) ?_
        (repeat (first | with_reducible refine W.seq ?_ | with_reducible refine Ops.nil ?_ | with_reducible refine W.region ?_ | refine z_p (kk := ?_)))
        exact W.fret rfl ⟨hbad (fun h => by omega), Below.via hb1 hb2⟩
      · by_cases hi0 : (i : Int) > 0
        · have ei : ((i : Int) - 1).toNat = i - 1 := by omega
          by_cases h2 : l.getD ((i : Int) - 1).toNat 0 ≥ l.getD i 0
          · refine W.ordA 99 [(0, 1), (1, 1), (2, 1), (3, 2), (4, 1), (5, 1), (6, 1), (7, 1), (8, 1), (9, 2), (10, 1), (11, 1), (12, 1), (13, 1), (14, 1), (15, 1), (16, 1), (17, 1), (18, 1), (19, 1), (20, 1), (21, 2), (22, 1), (23, 1), (24, 1), (25, 2), (26, 1), (27, 1), (28, 1)] rfl (by kernel_rfl) rfl (by kernel_rfl) (fun _ _ _ h => h) ?_
            (repeat (first | refine x_p (kk := ?_) | refine x_a (kk := ?_) | refine x_I (kk := fun _ => ?_) | refine x_K (kk := fun _ => ?_) | refine x_t (kk := ?_) | refine x_f (kk := ?_)))
            refine OrdA.nil (fun w2 hb2 => ?_)
            skip
            refine W.condT rfl (by first | rfl | assumption | (simp only [bnf] <;> omega) | (simp only [*, bnf]; done) | fail) ?_
            (repeat (first | with_reducible refine W.seq ?_ | with_reducible refine Ops.nil ?_ | with_reducible refine W.region ?_ | refine z_p (kk := ?_)))
            exact W.fret rfl ⟨hbad (fun h => by rw [ei] at h2; have := h.2 (by omega); omega), Below.via hb1 hb2⟩
          · refine W.ordA 99 [(0, 1), (1, 1), (2, 1), (3, 2), (4, 1), (5, 1), (6, 1), (7, 1), (8, 1), (9, 2), (10, 1), (11, 1), (12, 1), (13, 1), (14, 1), (15, 1), (16, 1), (17, 1), (18, 1), (19, 1), (20, 1), (21, 2), (22, 1), (23, 1), (24, 1), (25, 2), (26, 1), (27, 1), (28, 1)] rfl (by kernel_rfl) rfl (by kernel_rfl) (fun _ _ _ h => h) ?_
            (repeat (first | refine x_p (kk := ?_) | refine x_a (kk := ?_) | refine x_I (kk := fun _ => ?_) | refine x_K (kk := fun _ => ?_) | refine x_t (kk := ?_) | refine x_f (kk := ?_)))
            refine OrdA.nil (fun w2 hb2 => ?_)
            skip
            refine W.condF rfl (by first | rfl | assumption | (simp only [bnf] <;> omega) | (simp only [*, bnf]; done) | fail) ?_
            (repeat (first | with_reducible refine Ops.nil ?_ | with_reducible refine W.region ?_ | refine z_p (kk := ?_) | refine z_a (kk := ?_) | with_reducible refine W.skip ?_ | with_reducible refine W.endb ?_))
            rw [ei] at h2
            exact W.endl ⟨_, _, ⟨⟨i + 1, rfl, by omega, rfl, Below.via hb1 hb2, fun q hq => by
              by_cases e : q = i
              · rw [e]; exact ⟨by omega, fun hq0 => by omega⟩
              · exact hok q (by omega)⟩, by omega⟩, (by repeat (first | exact trivial | refine And.intro rfl ?_))⟩
        · refine W.ordA 99 [(0, 1), (1, 1), (2, 1), (3, 2), (4, 1), (5, 1), (6, 1), (7, 1), (8, 1), (9, 2), (10, 1), (11, 1), (12, 1), (13, 1), (14, 1), (15, 1), (16, 1), (17, 1), (18, 1), (19, 1), (20, 1), (21, 1), (22, 1), (23, 1), (24, 1), (25, 1), (26, 1), (27, 1), (28, 1)] rfl (by kernel_rfl) rfl (by kernel_rfl) (fun _ _ _ h => h) ?_
          (repeat (first | refine x_p (kk := ?_) | refine x_n (kk := ?_) | refine x_I (kk := fun _ => ?_) | refine x_f (kk := ?_)))
          refine OrdA.nil (fun w2 hb2 => ?_)
          skip
          refine W.condF rfl (by first | rfl | assumption | (simp only [bnf] <;> omega) | (simp only [*, bnf]; done) | fail) ?_
          (repeat (first | with_reducible refine Ops.nil ?_ | with_reducible refine W.region ?_ | refine z_p (kk := ?_) | refine z_a (kk := ?_) | with_reducible refine W.skip ?_ | with_reducible refine W.endb ?_))
          exact W.endl ⟨_, _, ⟨⟨i + 1, rfl, by omega, rfl, Below.via hb1 hb2, fun q hq => by
            by_cases e : q = i
            · rw [e]; exact ⟨by omega, fun hq0 => by omega⟩
            · exact hok q (by omega)⟩, by omega⟩, (by repeat (first | exact trivial | refine And.intro rfl ?_))⟩
  · have hil : i = l.length := by omega
    subst hil
    have hord : inOrd c.length l := fun q hq => hok q hq
    (repeat (first | with_reducible refine W.seq ?_ | with_reducible refine Ops.nil ?_ | with_reducible refine W.region ?_ | refine z_p (kk := ?_) | with_reducible refine W.block ?_ | refine W.exit rfl ?_))
    refine W.loop (fun m ρ w1 => ∃ (j : Nat), m = c.length - j ∧ j ≤ c.length ∧ ρ = [(0, .slice Ac c.length cc), (1, .int .i64 x), (2, .slice A l.length k), (7, .int .i64 c.length), (9, .int .i64 (((List.range j).filter (someB c x l)).length : Nat)), (10, .int .i64 j)] ∧ Below w.heap.size w w1)
      ⟨_, _, ⟨0, rfl, Nat.zero_le _, rfl, hb1⟩, (by repeat (first | exact trivial | refine And.intro rfl ?_))⟩ ?_
    clear hb1
    rintro m ρ w1 ⟨j, rfl, hj, rfl, hb1⟩
    have hfl : ((List.range j).filter (someB c x l)).length ≤ j := Nat.le_trans (List.length_filter_le _ _) (by simp)
    have hfs := filt_succ (someB c x l) j
    (repeat (first | with_reducible refine W.seq ?_ | with_reducible refine Ops.nil ?_ | with_reducible refine W.region ?_ | refine z_p (kk := ?_)))
    (first | refine W.condD rfl (fun hc => ?_) (fun hc => ?_) | refine W.condE rfl (fun hc => ?_) (fun hc => ?_) | refine W.condN rfl (fun hc => ?_) (fun hc => ?_) | refine W.cond rfl (fun hc => ?_) (fun hc => ?_))
    · have hjl : j < c.length := by omega
      (repeat (first | with_reducible refine W.seq ?_ | with_reducible refine Ops.nil ?_ | with_reducible refine W.region ?_ | refine z_p (kk := ?_) | with_reducible refine W.skip ?_ | with_reducible refine W.block ?_))
      refine W.loop (fun m ρ w2 => ∃ (q : Nat), m = l.length - q ∧ q ≤ l.length ∧ ρ = [(0, .slice Ac c.length cc), (1, .int .i64 x), (2, .slice A l.length k), (7, .int .i64 c.length), (9, .int .i64 (((List.range j).filter (someB c x l)).length : Nat)), (10, .int .i64 j), (11, .bool ((l.take q).any fun i => decide ((c.getD i.toNat []).getD j 0 ≤ x))), (12, .int .i64 q)] ∧ Below w.heap.size w w2)
        ⟨_, _, ⟨0, rfl, Nat.zero_le _, rfl, hb1⟩, (by repeat (first | exact trivial | refine And.intro rfl ?_))⟩ ?_
      clear hb1
      rintro m ρ w2 ⟨q, rfl, hq, rfl, hb2⟩
      (repeat (first | with_reducible refine W.seq ?_ | with_reducible refine Ops.nil ?_ | with_reducible refine W.region ?_ | refine z_p (kk := ?_) | refine z_l (kk := ?_)))
      (first | refine W.condD rfl (fun hc => ?_) (fun hc => ?_) | refine W.condE rfl (fun hc => ?_) (fun hc => ?_) | refine W.condN rfl (fun hc => ?_) (fun hc => ?_) | refine W.cond rfl (fun hc => ?_) (fun hc => ?_))
      · have hql : q < l.length := by omega
        have hlq := (hord q hql).1
        have ht := any_takeI (p := fun i => decide ((c.getD i.toNat []).getD j 0 ≤ x)) hql
        have hcl := hC.len (l.getD q 0).toNat (by omega)
        have hrow : row c (l.getD q 0) = c.getD (l.getD q 0).toNat [] := rfl
        rw [← hrow] at hcl ht
        cases hany : (l.take q).any fun i => decide ((c.getD i.toNat []).getD j 0 ≤ x) with
        | true =>
          rw [hany, Bool.true_or] at ht
          (repeat (first | with_reducible refine W.seq ?_ | with_reducible refine Ops.nil ?_ | with_reducible refine W.region ?_ | refine z_p (kk := ?_) | refine z_a (kk := ?_) | refine z_n (kk := ?_) | with_reducible refine W.skip ?_ | with_reducible refine W.endb ?_ | with_reducible refine W.block ?_))
          refine W.endl ⟨_, _, ⟨⟨q + 1, rfl, by omega, rfl, hb2⟩, by omega⟩, ?_⟩
          rw [ht]
          exact (by repeat (first | exact trivial | refine And.intro rfl ?_))
        | false =>
          rw [hany, Bool.false_or] at ht
          (repeat (first | with_reducible refine W.seq ?_ | with_reducible refine Ops.nil ?_ | with_reducible refine W.region ?_ | refine z_p (kk := ?_) | refine z_a (kk := ?_) | refine z_y (kk := ?_) | with_reducible refine W.skip ?_ | with_reducible refine W.endb ?_ | with_reducible refine W.block ?_ | refine z_I (kk := fun _ => ?_) | refine z_r (kk := fun _ _ _ _ => ?_)))
          refine W.endl ⟨_, _, ⟨⟨q + 1, rfl, by omega, rfl, hb2⟩, by omega⟩, ?_⟩
          rw [ht]
          exact (by repeat (first | exact trivial | refine And.intro rfl ?_))
      · have hql : q = l.length := by omega
        subst hql
        rw [List.take_length]
        have hsm : (l.any fun i => decide ((c.getD i.toNat []).getD j 0 ≤ x)) = someB c x l j := rfl
        rw [hsm]
        cases hs : someB c x l j with
        | true =>
          rw [hs] at hfs
          (repeat (first | with_reducible refine W.seq ?_ | with_reducible refine Ops.nil ?_ | with_reducible refine W.region ?_ | refine z_p (kk := ?_) | refine W.exit rfl ?_))
          refine W.condT rfl (by first | rfl | assumption | (simp only [bnf] <;> omega) | (simp only [*, bnf]; done) | fail) ?_
          (repeat (first | with_reducible refine Ops.nil ?_ | with_reducible refine W.region ?_ | refine z_p (kk := ?_) | refine z_a (kk := ?_) | with_reducible refine W.endb ?_))
          refine W.endl ⟨_, _, ⟨⟨j + 1, rfl, by omega, rfl, hb2⟩, by omega⟩, ?_⟩
          rw [hfs]
          exact (by repeat (first | exact trivial | refine And.intro rfl ?_))
        | false =>
          rw [hs] at hfs
          (repeat (first | with_reducible refine W.seq ?_ | with_reducible refine Ops.nil ?_ | with_reducible refine W.region ?_ | refine z_p (kk := ?_) | refine W.exit rfl ?_))
          refine W.condF rfl (by first | rfl | assumption | (simp only [bnf] <;> omega) | (simp only [*, bnf]; done) | fail) ?_
          (repeat (first | with_reducible refine Ops.nil ?_ | with_reducible refine W.region ?_ | refine z_p (kk := ?_) | refine z_a (kk := ?_) | with_reducible refine W.skip ?_ | with_reducible refine W.endb ?_))
          refine W.endl ⟨_, _, ⟨⟨j + 1, rfl, by omega, rfl, hb2⟩, by omega⟩, ?_⟩
          rw [hfs]
          exact (by repeat (first | exact trivial | refine And.intro rfl ?_))
    · have hjl : j = c.length := by omega
      subst hjl
      have hh := holesH_len (c := c) (w := x) (l := l)
      by_cases h0 : (l.length : Int) > 0
      · by_cases h1 : ((((List.range c.length).filter (someB c x l)).length : Nat) : Int) < l.length
        · (repeat (first | with_reducible refine W.seq ?_ | with_reducible refine Ops.nil ?_ | with_reducible refine W.region ?_ | refine z_p (kk := ?_) | refine z_y (kk := ?_) | refine W.exit rfl ?_ | refine z_l (kk := ?_) | refine z_h (kk := ?_)))
          refine W.fret rfl ⟨?_, hb1⟩
          rw [decide_eq_true (show BlkS c x l from ⟨hord, by omega⟩)]
          show Value.bool _ = _
          rw [decide_eq_true h1]
        · (repeat (first | with_reducible refine W.seq ?_ | with_reducible refine Ops.nil ?_ | with_reducible refine W.region ?_ | refine z_p (kk := ?_) | refine z_y (kk := ?_) | refine W.exit rfl ?_ | refine z_l (kk := ?_) | refine z_h (kk := ?_)))
          refine W.fret rfl ⟨?_, hb1⟩
          rw [decide_eq_false (show ¬ BlkS c x l from fun h => by have := h.2; omega)]
          show Value.bool _ = _
          rw [decide_eq_false h1]
      · (repeat (first | with_reducible refine W.seq ?_ | with_reducible refine Ops.nil ?_ | with_reducible refine W.region ?_ | refine z_p (kk := ?_) | refine z_n (kk := ?_) | refine W.exit rfl ?_ | refine z_l (kk := ?_) | refine z_g (kk := ?_)))
        exact W.fret rfl ⟨hdec (fun h => by have := h.2; omega), hb1⟩
end Go.Proofs.Ytehjmakiljhjdaa
namespace Go.Proofs.Ytehjmakiljhjdaa
open Go Go.RowKit Go.Proofs.Ytehjmakiljhjdaa.VW
attribute [local irreducible] W Ops OrdA VW.Ord OrdX Wi OpsI
theorem pairs_c {w : World} {cv : Value} : Calls Try.prog 70 #[cv] w (Ret fun r w' => ∃ b, r = .func (.func 89) #[] #[.pointer (some ⟨b, 0, none⟩)] ∧ w'.heap[b]? = some (.cells cv.cells 71 (0, 0)) ∧ w.heap.size ≤ b ∧ Below w.heap.size w w') := by
  refine calls_W (vs := [_]) Try.func70 rfl (by kernel_rfl) rfl ?_
  (repeat (first | with_reducible refine W.seq ?_ | with_reducible refine W.region ?_))
  refine Ops.box rfl rfl rfl rfl (fun w1 b hb => ?_)
  (repeat (first | with_reducible refine W.seq ?_ | with_reducible refine Ops.nil ?_ | with_reducible refine W.region ?_ | refine z_p (kk := ?_)))
  exact W.fret rfl ⟨b, rfl, hb.at_, by rw [hb.r_eq]; exact Nat.le_refl _, Below.put (Below.refl _ _) hb.kp (fun _ e => e.elim)⟩
theorem pairs1_in {b1 lp n cap : Nat} {A : Option Addr} {J : Nat → Nat → World → Prop} {K : World → Prop} (hn : n ≤ 1000000)
    (hJ : ∀ i j W, J i j W → Blk W b1 #[.slice A n cap] 71) (hnext : ∀ i W, i < n → J i n W → J (i + 1) 0 W)
    (hround : ∀ i j W, J i j W → i < n → j < n → YieldAt (Fw none) 0 Try.prog lp #[.int .i64 (i : Int), .int .i64 (j : Int)] W (fun e W' => (e = .returned (.bool true) ∧ J i (j + 1) W') ∨ (e = .returned (.bool false) ∧ K W')))
    {w : World} (h0 : J 0 0 w) : CallsIn (Fw none) 0 Try.prog 89 #[.func (.yield lp) #[] #[], .pointer (some ⟨b1, 0, none⟩)] w (Ret fun v w' => J n 0 w' ∨ K w') := by
  have hB := hJ _ _ _ h0
  refine callsIn_Wi (vs := [_, _]) Try.func89 rfl rfl ?_
  refine Wi.seq (Wi.regionN rfl rfl ?_)
  (repeat (first | with_reducible refine Ops.nil ?_ | refine z_p (kk := ?_) | refine z_l (kk := ?_) | refine z_d (kk := ?_)))
  refine W.endl ?_
  refine Wi.sub (ρ' := [(0, .func (.yield lp) #[] #[]), (1, .pointer (some ⟨b1, 0, none⟩)), (6, .int .i64 n), (7, .int .i64 0)]) (by repeat (first | exact trivial | refine And.intro rfl ?_)) ?_
  clear hB
  refine Wi.block (Wi.loop (m := n) (fun m ρ w1 => ∃ i : Nat, m = n - i ∧ i ≤ n ∧ ρ = [(0, .func (.yield lp) #[] #[]), (1, .pointer (some ⟨b1, 0, none⟩)), (6, .int .i64 n), (7, .int .i64 i)] ∧ J i 0 w1) ⟨0, rfl, Nat.zero_le _, rfl, h0⟩ ?_)
  rintro m ρ w1 ⟨i, rfl, hi, rfl, hj⟩
  have hB := hJ _ _ _ hj
  refine Wi.seq (Wi.regionN rfl rfl ?_)
  (repeat (first | with_reducible refine Ops.nil ?_ | refine z_p (kk := ?_)))
  refine W.endl ?_
  refine Wi.seq (Wi.cond rfl (fun hc => ?_) (fun hc => ?_))
  · have hil : i < n := by simpa using hc
    refine Wi.skip ?_
    refine Wi.seq (Wi.block (Wi.seq (Wi.regionN rfl rfl ?_)))
    (repeat (first | with_reducible refine Ops.nil ?_ | refine z_p (kk := ?_)))
    refine W.endl ?_
    refine Wi.seq (Wi.regionN rfl rfl ?_)
    (repeat (first | with_reducible refine Ops.nil ?_ | refine z_p (kk := ?_) | refine z_l (kk := ?_) | refine z_d (kk := ?_)))
    refine W.endl ?_
    refine Wi.sub (ρ' := [(0, .func (.yield lp) #[] #[]), (1, .pointer (some ⟨b1, 0, none⟩)), (3, .int .i64 i), (6, .int .i64 n), (7, .int .i64 i), (11, .int .i64 n), (12, .int .i64 0)]) (by repeat (first | exact trivial | refine And.intro rfl ?_)) ?_
    clear hB
    refine Wi.block (Wi.loop (m := n) (fun m ρ w2 => ∃ j : Nat, m = n - j ∧ j ≤ n ∧ ρ = [(0, .func (.yield lp) #[] #[]), (1, .pointer (some ⟨b1, 0, none⟩)), (3, .int .i64 i), (6, .int .i64 n), (7, .int .i64 i), (11, .int .i64 n), (12, .int .i64 j)] ∧ J i j w2) ⟨0, rfl, Nat.zero_le _, rfl, hj⟩ ?_)
    rintro m ρ w2 ⟨j, rfl, hjn, rfl, hj2⟩
    refine Wi.seq (Wi.regionN rfl rfl ?_)
    (repeat (first | with_reducible refine Ops.nil ?_ | refine z_p (kk := ?_)))
    refine W.endl ?_
    refine Wi.seq (Wi.cond rfl (fun hc => ?_) (fun hc => ?_))
    · have hjl : j < n := by simpa using hc
      refine Wi.skip ?_
      refine Wi.seq (Wi.block (Wi.seq (Wi.regionN rfl rfl ?_)))
      (repeat (first | with_reducible refine Ops.nil ?_ | refine z_p (kk := ?_)))
      refine W.endl ?_
      refine Wi.seq (Wi.region ?_)
      refine OpsI.split 3 rfl rfl rfl rfl ?_
      (repeat (first | refine z_p (kk := ?_)))
      refine Ops.nil (W.endl ?_)
      obtain ⟨fn, tmps, assign, body, hr, hR⟩ := hround i j w2 hj2 hil hjl
      refine OpsI.yield2 rfl rfl rfl rfl rfl rfl rfl ⟨fn, tmps, assign, body, hr, hR.mono fun e W' he => ?_⟩
      rcases he with ⟨rfl, hj3⟩ | ⟨rfl, hk⟩
      · refine ⟨true, rfl, ?_⟩
        refine OpsI.split 1 rfl rfl rfl rfl ?_
        (repeat (first | refine z_p (kk := ?_)))
        refine Ops.nil (W.endl (OpsI.nil ?_))
        refine Wi.cond rfl (fun hc => ?_) (fun _ => Wi.skip ?_)
        · simp at hc
        refine Wi.regionN rfl rfl ?_
        (repeat (first | with_reducible refine Ops.nil ?_ | refine z_p (kk := ?_) | refine z_a (kk := ?_)))
        exact W.endl ⟨_, _, ⟨⟨j + 1, rfl, by omega, rfl, hj3⟩, by omega⟩, (by repeat (first | exact trivial | refine And.intro rfl ?_))⟩
      · refine ⟨false, rfl, ?_⟩
        refine OpsI.split 1 rfl rfl rfl rfl ?_
        (repeat (first | refine z_p (kk := ?_)))
        refine Ops.nil (W.endl (OpsI.nil ?_))
        refine Wi.cond rfl (fun _ => Wi.ret ?_) (fun hc => ?_)
        · exact ⟨.inr rfl, _, rfl, .inr hk⟩
        · simp at hc
    · have : j = n := by simp at hc; omega
      subst this
      refine Wi.exit ?_
      show ite _ _ _
      rw [if_pos rfl]
      refine Wi.regionN rfl rfl ?_
      (repeat (first | with_reducible refine Ops.nil ?_ | refine z_p (kk := ?_) | refine z_a (kk := ?_)))
      exact W.endl ⟨_, _, ⟨⟨i + 1, rfl, by omega, rfl, hnext i _ hil hj2⟩, by omega⟩, (by repeat (first | exact trivial | refine And.intro rfl ?_))⟩
  · have : i = n := by simp at hc; omega
    subst this
    refine Wi.exit ?_
    show ite _ _ _
    rw [if_pos rfl]
    exact ⟨.inl rfl, _, rfl, .inl hj⟩
/-- for i, j := range c.pairs(): 'I i j' before the pair i, j; 'K' behind a return. -/
theorem JW.pairs {wE : World} {b1 n cap id p1 p2 nT : Nat} {gx : Operand} {A : Option Addr} {assign body c2 : Code} {Φ : Post} {ds : List Deferred} {ρ : E} {I : Nat → Nat → World → Prop} {K : World → Prop} (hn : n ≤ 1000000)
    (hg : ev ρ gx = some (.func (.func 89) #[] #[.pointer (some ⟨b1, 0, none⟩)])) (hi2 : inB nT c2 = true) (hp1 : Nat.blt p1 nT = true) (hp2 : Nat.blt p2 nT = true)
    (hI : ∀ i j W, I i j W → Blk W b1 #[.slice A n cap] 71) (hnext : ∀ i W, i < n → I i n W → I (i + 1) 0 W)
    (hIk : ∀ i j W W', I i j W → Kp (fun k => k = wE.heap.size ∨ k = wE.heap.size + 1) W W' → I i j W') (hKk : ∀ W W', K W → Kp (fun k => k = wE.heap.size ∨ k = wE.heap.size + 1) W W' → K W') (h0 : I 0 0 wE)
    (hround : ∀ L i j W, L = wE.heap.size + 1 → I i j W → i < n → j < n → wE.heap.size + 2 ≤ W.heap.size → Wi (some L) Try.prog nT [] assign (fun e ρ1 w1 => e = .normal ∧ w1 = W ∧ ∀ W', I i j W' → wE.heap.size + 2 ≤ W'.heap.size → Wi (some L) Try.prog nT [] body (fun e ρ2 w2 => Kp (fun k => k ≠ wE.heap.size ∧ k ≠ wE.heap.size + 1) W' w2 ∧ ((e = .normal ∧ I i (j + 1) w2) ∨ (e = .ret ∧ K w2))) ρ1 W') ((p2, .int .i64 j) :: (p1, .int .i64 i) :: ρ) W)
    (hdone : ∀ D W3, D = wE.heap.size → I n 0 W3 → W3.heap[D]? = some (.deferred (some [])) → W Try.prog nT ({ target := .collected D, args := #[] } :: ds) [.code c2] (fun e ρ w => e = .ret ∧ w.heap[D]? = some (.deferred (some [])) ∧ Φ .ret ρ (w.putObj D (.deferred none))) ρ W3)
    (hret : ∀ D W3, D = wE.heap.size → K W3 → W3.heap[D]? = some (.deferred (some [])) → Φ .ret ρ (W3.putObj D (.deferred none))) :
    JW Try.prog nT ds Φ c2 (.block id (.rangeFunc gx #[p1, p2] assign body)) ρ wE := by
  refine JW.range2 (lb := [.pointer (some ⟨b1, 0, none⟩)]) (gf := 89) hg (Fns.call (P := Try.prog) (by exact rfl)) hi2 (fun fn tmps hrep D W1 hD hW1 => ?_)
  subst hD hW1
  have ka := (mk_alloc wE (.deferred (some []))).kp
  have kb := (mk_alloc (wE.alloc (.deferred (some []))) (.loop (loopRec fn tmps #[p1, p2] assign body wE.heap.size))).kp
  have h1 := hIk _ _ _ _ h0 ((ka.trans kb).mono fun k _ e => by rcases e with e | e <;> exact e.elim)
  have hsz : (wE.alloc (.deferred (some []))).heap.size = wE.heap.size + 1 := (mk_alloc wE _).size
  have hD1 : ((wE.alloc (.deferred (some []))).alloc (.loop (loopRec fn tmps #[p1, p2] assign body wE.heap.size))).heap[wE.heap.size]? = some (.deferred (some [])) := at_kp (mk_alloc wE (.deferred (some []))).at_ kb (fun e => e)
  have hL1 : ((wE.alloc (.deferred (some []))).alloc (.loop (loopRec fn tmps #[p1, p2] assign body wE.heap.size))).heap[wE.heap.size + 1]? = some (.loop (loopRec fn tmps #[p1, p2] assign body wE.heap.size)) := by
    have := (mk_alloc (wE.alloc (.deferred (some []))) (.loop (loopRec fn tmps #[p1, p2] assign body wE.heap.size))).at_
    rw [hsz] at this
    exact this
  refine CallsIn.mono (pairs1_in (lp := wE.heap.size + 1) (b1 := b1) (n := n) (A := A) (cap := cap) hn (J := fun i j W => I i j W ∧ W.heap[wE.heap.size]? = some (.deferred (some [])) ∧ W.heap[wE.heap.size + 1]? = some (.loop (loopRec fn tmps #[p1, p2] assign body wE.heap.size)))
    (K := fun W => K W ∧ W.heap[wE.heap.size]? = some (.deferred (some [])) ∧ W.heap[wE.heap.size + 1]? = some (.loop { (loopRec fn tmps #[p1, p2] assign body wE.heap.size) with state := .done, pending := some .ret }))
    (fun i j W h => hI i j W h.1) (fun i W hi h => ⟨hnext i W hi h.1, h.2⟩) (fun i j W h hi hj => ?_) ⟨h1, hD1, hL1⟩) ?_
  · obtain ⟨hi1, hd, hl1⟩ := h
    have hlt := (Array.getElem?_eq_some_iff.1 hl1).1
    refine round_in2 hl1 hrep hp1 hp2 ((hround _ i j W rfl hi1 hi hj (by omega)).mono ?_)
    rintro e ρ1 w1 ⟨rfl, rfl, hb⟩
    refine ⟨rfl, _, hl1, rfl, ?_⟩
    have hk := kp_putObj (w := w1) (r := wE.heap.size + 1) (.loop { (loopRec fn tmps #[p1, p2] assign body wE.heap.size) with state := .busy })
    refine (hb _ (hIk _ _ _ _ hi1 (hk.mono fun k _ e => .inr e)) (by have := hk.size; omega)).mono ?_
    rintro e ρ2 w2 ⟨hk2, hres⟩
    have hl2 : w2.heap[wE.heap.size + 1]? = some (.loop { (loopRec fn tmps #[p1, p2] assign body wE.heap.size) with state := .busy }) := at_kp (World.putObj_heap_same hlt) hk2 (fun e => e.2 rfl)
    have hd2 : w2.heap[wE.heap.size]? = some (.deferred (some [])) := at_kp (at_kp hd hk (fun e => by omega)) hk2 (fun e => e.1 rfl)
    have hlt2 := (Array.getElem?_eq_some_iff.1 hl2).1
    refine ⟨_, hl2, ?_⟩
    rcases hres with ⟨rfl, hi3⟩ | ⟨rfl, hk3⟩
    · have hk3 := kp_putObj (w := w2) (r := wE.heap.size + 1) (.loop (loopRec fn tmps #[p1, p2] assign body wE.heap.size))
      exact .inl ⟨rfl, .inl ⟨rfl, hIk _ _ _ _ hi3 (hk3.mono fun k _ e => .inr e), at_kp hd2 hk3 (fun e => by omega), World.putObj_heap_same hlt2⟩⟩
    · have hk4 := kp_putObj (w := w2) (r := wE.heap.size + 1) (.loop { (loopRec fn tmps #[p1, p2] assign body wE.heap.size) with state := .done, pending := some .ret })
      exact .inr ⟨rfl, .inr ⟨rfl, hKk _ _ hk3 (hk4.mono fun k _ e => .inr e), at_kp hd2 hk4 (fun e => by omega), World.putObj_heap_same hlt2⟩⟩
  · rintro e W2 ⟨v, rfl, ⟨hi2', hd, hl2⟩ | ⟨hk2, hd, hl2⟩⟩
    · refine ⟨v, rfl, _, hl2, hd, .inl ⟨rfl, rfl, ?_⟩⟩
      rintro W3 rfl
      have hk3 := kp_putObj (w := W2) (r := wE.heap.size + 1) (.loop { (loopRec fn tmps #[p1, p2] assign body wE.heap.size) with state := .exhausted })
      exact hdone _ _ rfl (hIk _ _ _ _ hi2' (hk3.mono fun k _ e => .inr e)) (at_kp hd hk3 (fun e => by omega))
    · refine ⟨v, rfl, _, hl2, hd, .inr ⟨rfl, rfl, ?_⟩⟩
      rintro W3 rfl
      have hk3 := kp_putObj (w := W2) (r := wE.heap.size + 1) (.loop { { (loopRec fn tmps #[p1, p2] assign body wE.heap.size) with state := .done, pending := some .ret } with state := .exhausted })
      exact ⟨at_kp hd hk3 (fun e => by omega), hret _ _ rfl (hKk _ _ hk2 (hk3.mono fun k _ e => .inr e)) (at_kp hd hk3 (fun e => by omega))⟩
end Go.Proofs.Ytehjmakiljhjdaa
namespace Go.Proofs.Ytehjmakiljhjdaa
open Go Go.RowKit Go.Proofs.Ytehjmakiljhjdaa.VW
attribute [local irreducible] W Ops OrdA VW.Ord OrdX Wi OpsI OrdF
/-- By how much the pair i, j makes assignments dearer. -/
def slackE (c : List (List Int)) (i j : Nat) : Int := ent c i j + restS c (fun k => false || k == (i : Int)) c.length (2 ^ j) - totP c (firstS c c.length 0) c.length
def slRow (c : List (List Int)) (i : Nat) : Nat → List Int
  | 0 => []
  | m + 1 => slRow c i m ++ [slackE c i m]
theorem slRow_len (c : List (List Int)) (i : Nat) : ∀ m, (slRow c i m).length = m
  | 0 => rfl
  | m + 1 => by simp [slRow, slRow_len c i m]
/-- The table, as far as the pair i, j. -/
def slT (c : List (List Int)) (i j q : Nat) : List Int := if q < i then slRow c q c.length else if q = i then slRow c i j else []
def slackS (c : List (List Int)) : List (List Int) := (List.range c.length).map fun q => slRow c q c.length
theorem slT_step {c : List (List Int)} {i j : Nat} : (fun q => if q = i then slT c i j i ++ [slackE c i j] else slT c i j q) = slT c i (j + 1) := by
  funext q
  by_cases e : q = i
  · subst e; simp [slT, slRow]
  · simp [slT, e]
theorem slT_next {c : List (List Int)} {i : Nat} : slT c i c.length = slT c (i + 1) 0 := by
  funext q
  unfold slT
  by_cases e : q = i
  · subst e; simp
  · by_cases h : q < i
    · rw [if_pos h, if_pos (by omega)]
    · rw [if_neg h, if_neg e, if_neg (by omega)]
      by_cases e2 : q = i + 1
      · subst e2; simp [slRow]
      · rw [if_neg e2]
theorem own_r {r m k i : Nat} (h : (Value.slice (some ⟨r, 0, none⟩) m k).ownBlock = some i) : i = r := by cases h; rfl
set_option maxHeartbeats 8000000 in
theorem slack_c {w : World} {cv : Value} {c : List (List Int)} (hM : RowsM w cv c) (hC : Cst c) : Calls Try.prog 58 #[cv] w (Ret fun r w' => ∃ cvs, RW w w' r cvs c.length (fun q => slRow c q c.length)) := by
  have hn7 := hC.n7
  have hp7 := pow7 hn7
  obtain ⟨hlen, hasg⟩ := firstS_Asg (c := c)
  have htb := totP_bd hC (fun i hi => (hasg i hi).1) (by omega) (firstS c c.length 0).length (Nat.le_refl _)
  obtain ⟨Ac, cc, rfl⟩ := hM.sl
  refine calls_W (vs := [_]) Try.func58 rfl (by kernel_rfl) rfl ?_
  (repeat (first | with_reducible refine W.seq ?_ | with_reducible refine W.region ?_))
  refine Ops.box rfl rfl rfl rfl (fun w1 b1 hb1 => ?_)
  have hB1 : Blk w1 b1 #[.slice Ac c.length cc] 71 := hb1.at_
  have hl1 : Below w.heap.size w w1 := Below.put (Below.refl _ _) hb1.kp (fun _ e => e.elim)
  (repeat (first | with_reducible refine W.seq ?_ | with_reducible refine Ops.nil ?_ | refine z_p (kk := ?_)))
  refine W.ordF (fun w' => Below w1.heap.size w1 w') [0, 1, 2, 3, 4, 5] rfl (by kernel_rfl) rfl (fun _ _ _ h => h) (fun w2 k2 _ => ⟨Kp.below k2 (Nat.le_refl _) (fun _ _ e => e), ?_⟩)
  have hl2 : Below w1.heap.size w1 w2 := Kp.below k2 (Nat.le_refl _) (fun _ _ e => e)
  refine f_D (kk := ?_)
  refine f_D (kk := ?_)
  have htot : ∀ {w' : World} {lv : Value}, Below w1.heap.size w1 w' → SlI w' lv (firstS c c.length 0) → Calls Try.prog 63 #[.slice Ac c.length cc, lv] w' (Ret fun r w'' => r = .int .i64 (totP c (firstS c c.length 0) c.length) ∧ w'' = w') := fun hb hs => by
    have := total_c (hM.below (Below.via hl1 hb)) hC hs (fun i hi => (hasg i hi).1) (by omega)
    rwa [hlen] at this
  have hfst : ∀ {w' : World}, Below w1.heap.size w1 w' → Calls Try.prog 61 #[.slice Ac c.length cc] w' (Ret fun r w'' => OI 3 (Value.int .i64) w' w'' r (firstS c c.length 0)) := fun hb => first_c (hM.below (Below.via hl1 hb)) hC
  refine OrdF.cut (π' := [5]) (L' := [true, true, true, true, true, false]) (fun ρ w5 => ∃ b3, ρ = [(1, .pointer (some ⟨b1, 0, none⟩)), (3, .pointer (some ⟨b3, 0, none⟩)), (12, .int .i64 (totP c (firstS c c.length 0) c.length))] ∧ Below w1.heap.size w1 w5 ∧ w1.heap.size ≤ b3 ∧ Blk w5 b3 #[.int .i64 0] 3) (fun fin => ?_) ?_
  · refine OrdF.both 2 4 (by kernel_rfl) rfl rfl ?_ ?_
    · refine Ops.call rfl rfl rfl rfl rfl (hfst hl2) (fun lv w3 hO3 => Ops.nil (W.endl ⟨Below.via hl2 hO3.bel, ?_⟩))
      have hl3 := Below.via hl2 hO3.bel
      refine OrdF.both 3 4 (by kernel_rfl) rfl rfl ?_ ?_
      · refine Ops.call rfl rfl rfl rfl rfl (htot hl3 hO3.sl) (fun r w4 hR => ?_)
        obtain ⟨rfl, rfl⟩ := hR
        refine Ops.nil (W.endl ⟨hl3, ?_⟩)
        refine OrdF.one 4 (by kernel_rfl) rfl (Ops.alloc rfl rfl rfl rfl (fun w5 b3 hb3 => Ops.nil (W.endl ⟨Below.put hl3 hb3.kp (fun _ e => e.elim), ?_⟩)))
        exact OrdF.sub (by repeat (first | exact trivial | refine And.intro rfl ?_)) (fin _ _ ⟨b3, rfl, Below.put hl3 hb3.kp (fun _ e => e.elim), by have := hb3.r_eq; have := hl3.size; omega, hb3.at_⟩)
      · refine Ops.alloc rfl rfl rfl rfl (fun w4 b3 hb3 => Ops.nil (W.endl ⟨Below.put hl3 hb3.kp (fun _ e => e.elim), ?_⟩))
        have hl4 := Below.put hl3 hb3.kp (fun _ e => e.elim)
        refine OrdF.one 3 (by kernel_rfl) rfl (Ops.call rfl rfl rfl rfl rfl (htot hl4 (Sl.below hO3.sl (Kp.below hb3.kp (Nat.le_refl _) (fun _ _ e => e)))) (fun r w5 hR => ?_))
        obtain ⟨rfl, rfl⟩ := hR
        refine Ops.nil (W.endl ⟨hl4, ?_⟩)
        exact OrdF.sub (by repeat (first | exact trivial | refine And.intro rfl ?_)) (fin _ _ ⟨b3, rfl, hl4, by have := hb3.r_eq; have := hl3.size; omega, hb3.at_⟩)
    · refine Ops.alloc rfl rfl rfl rfl (fun w3 b3 hb3 => Ops.nil (W.endl ⟨Below.put hl2 hb3.kp (fun _ e => e.elim), ?_⟩))
      have hl3 := Below.put hl2 hb3.kp (fun _ e => e.elim)
      refine OrdF.one 2 (by kernel_rfl) rfl (Ops.call rfl rfl rfl rfl rfl (hfst hl3) (fun lv w4 hO4 => Ops.nil (W.endl ⟨Below.via hl3 hO4.bel, ?_⟩)))
      have hl4 := Below.via hl3 hO4.bel
      refine OrdF.one 3 (by kernel_rfl) rfl (Ops.call rfl rfl rfl rfl rfl (htot hl4 hO4.sl) (fun r w5 hR => ?_))
      obtain ⟨rfl, rfl⟩ := hR
      refine Ops.nil (W.endl ⟨hl4, ?_⟩)
      exact OrdF.sub (by repeat (first | exact trivial | refine And.intro rfl ?_)) (fin _ _ ⟨b3, rfl, hl4, by have := hb3.r_eq; have := hl2.size; omega, Blk.kp hb3.at_ (Kp.of_below (S := fun _ => False) hO4.bel) (fun e => e)⟩)
  · rintro ρ w5 ⟨b3, rfl, hl5, hge3, hB3⟩
    refine OrdF.one 5 (by kernel_rfl) rfl (Ops.st rfl rfl rfl rfl rfl rfl rfl hB3 (by simp) (fun w6 hu6 => Ops.nil (W.endl ⟨Below.put hl5 hu6.kp (fun i e => by omega), OrdF.done (by kernel_rfl) ?_⟩)))
    have hl6 := Below.put hl5 hu6.kp (fun i e => by omega)
    have hB3' : Blk w6 b3 #[.int .i64 (totP c (firstS c c.length 0) c.length)] 3 := by simpa using hu6.blk
    have hb06 := Below.via hl1 hl6
    (repeat (first | with_reducible refine W.seq ?_ | with_reducible refine W.region ?_ | refine z_l (kk := ?_) | refine z_D (kk := ?_)))
    refine Ops.mkO (fun v : Value => v) (.slice none 0 0) (w0 := w) (i := c.length) rfl rfl rfl rfl rfl rfl rfl rfl rfl (by omega) rfl hb06 (fun w7 r hO7 k7 hr7 => ?_)
    refine Ops.alloc rfl rfl rfl rfl (fun w8 b4 hb4 => ?_)
    refine Ops.st rfl rfl rfl rfl rfl rfl rfl hb4.at_ (by exact Nat.zero_lt_one) (fun w9 hu9 => ?_)
    have hB4 : Blk w9 b4 #[.slice (some ⟨r, 0, none⟩) c.length c.length] 22 := hu9.blk
    have hrlt : r < w7.heap.size := (hO7.own.lt r rfl).2
    have h4e := hb4.r_eq
    have s6 := hl6.size
    have s7 := k7.size
    have s8 := hb4.kp.size
    have s9 := hu9.size
    have hl9 : Below w6.heap.size w6 w9 := Below.put (Below.put (Below.put (Below.refl _ _) k7 (fun _ e => e.elim)) hb4.kp (fun _ e => e.elim)) hu9.kp (fun i e => by omega)
    have hb09 := Below.via hb06 hl9
    have hB19 : Blk w9 b1 #[.slice Ac c.length cc] 71 := hB1.kp (Kp.of_below (S := fun _ => False) (Below.via hl6 hl9)) (fun e => e)
    have hB39 : Blk w9 b3 #[.int .i64 (totP c (firstS c c.length 0) c.length)] 3 := hB3'.kp (Kp.of_below (S := fun _ => False) hl9) (fun e => e)
    have hb3lt := hB3'.lt
    have hb1lt := hB1.lt
    have hO9 := (hO7.kp hb4.kp (fun i e => e.elim)).kp hu9.kp (fun i e => ⟨by have := hb06.size; omega, fun e2 => by have := own_r e2; omega⟩)
    refine Ops.nil ?_
    refine W.toJ (JW.seq (by exact rfl) ?_)
    (repeat (first | with_reducible refine W.region ?_ | refine z_d (kk := ?_)))
    refine Ops.call rfl rfl rfl rfl rfl pairs_c (fun rv wE hR => ?_)
    obtain ⟨b89, rfl, hB89, hge89, hlE⟩ := hR
    have hbE := Below.via hb09 hlE
    have hB1E := hB19.kp (Kp.of_below (S := fun _ => False) hlE) (fun e => e)
    have hB3E := hB39.kp (Kp.of_below (S := fun _ => False) hlE) (fun e => e)
    have hB4E := hB4.kp (Kp.of_below (S := fun _ => False) hlE) (fun e => e)
    have hOE := hO9.below hlE
    have hB89' : Blk wE b89 #[.slice Ac c.length cc] 71 := hB89
    have hlt89 := hB89'.lt
    have sE := hlE.size
    have h4lt := hB4.lt
    refine Ops.nil (W.endl ?_)
    refine JW.sub (ρ' := [(1, .pointer (some ⟨b1, 0, none⟩)), (3, .pointer (some ⟨b3, 0, none⟩)), (4, .pointer (some ⟨b4, 0, none⟩)), (17, .func (.func 89) #[] #[.pointer (some ⟨b89, 0, none⟩)])]) (by repeat (first | exact trivial | refine And.intro rfl ?_)) ?_
    refine JW.pairs (b1 := b89) (n := c.length) (A := Ac) (cap := cc) (I := fun i j W => ∃ cvs, RW w W (.slice (some ⟨r, 0, none⟩) c.length c.length) cvs c.length (slT c i j) ∧ Blk W b1 #[.slice Ac c.length cc] 71 ∧ Blk W b3 #[.int .i64 (totP c (firstS c c.length 0) c.length)] 3 ∧ Blk W b4 #[.slice (some ⟨r, 0, none⟩) c.length c.length] 22 ∧ Blk W b89 #[.slice Ac c.length cc] 71 ∧ ∀ q, q < c.length → ∀ b, (cvs.getD q undef).ownBlock = some b → wE.heap.size + 2 ≤ b)
      (K := fun _ => False) (by omega) rfl (by exact rfl) (by exact rfl) (by exact rfl) (fun i j W h => by obtain ⟨_, _, _, _, _, h, _⟩ := h; exact h) (fun i W _ h => by rw [← slT_next]; exact h)
      (fun i j W W' h hk => ?_) (fun _ _ h _ => h) ?_ (fun L i j wp hL h hi hj hW => ?_) (fun D w3 hD h hdf => ?_) (fun _ _ _ h _ => h.elim)
    · obtain ⟨cvs, hR, h1, h3, h4, h89, hav⟩ := h
      exact ⟨cvs, hR.kp hk (fun q e => ⟨by have := hbE.size; omega, fun e2 => by have := own_r e2; omega, fun j hj e2 => by have := hav j hj q e2; omega⟩), h1.kp hk (fun e => by omega), h3.kp hk (fun e => by omega), h4.kp hk (fun e => by omega), h89.kp hk (fun e => by omega), hav⟩
    · refine ⟨List.replicate c.length (.slice none 0 0), ⟨hOE, by simp, fun j hj => ?_, fun j hj b hb => ?_⟩, hB1E, hB3E, hB4E, hB89', fun q hq b hb => ?_⟩
      · have e1 : (List.replicate c.length (Value.slice none 0 0)).getD j undef = .slice none 0 0 := by simp [List.getD_eq_getElem?_getD, hj]
        have e2 : slT c 0 0 j = [] := by unfold slT; rw [if_neg (by omega)]; split <;> rfl
        rw [e1, e2]
        exact OI.nil hbE
      · have e1 : (List.replicate c.length (Value.slice none 0 0)).getD j undef = .slice none 0 0 := by simp [List.getD_eq_getElem?_getD, hj]
        rw [e1] at hb
        simp [Value.ownBlock] at hb
      · have e1 : (List.replicate c.length (Value.slice none 0 0)).getD q undef = .slice none 0 0 := by simp [List.getD_eq_getElem?_getD, hq]
        rw [e1] at hb
        simp [Value.ownBlock] at hb
    · refine Wi.seq (Wi.regionN rfl rfl ?_)
      (repeat (first | with_reducible refine Ops.nil ?_ | refine z_p (kk := ?_)))
      refine W.endl ?_
      refine Wi.regionN rfl rfl ?_
      (repeat (first | with_reducible refine Ops.nil ?_ | refine z_p (kk := ?_)))
      refine W.endl ⟨rfl, rfl, fun wq h' hq => ?_⟩
      obtain ⟨cvs, hRW, h1, h3, h4, h89, hav⟩ := h'
      have hbq := hRW.o.bel
      have hcl := hC.len i hi
      have hrow : row c (i : Int) = c.getD i [] := by simp [row]
      rw [← hrow] at hcl
      refine Wi.block (Wi.seq (Wi.ordF (fun w' => Below wq.heap.size wq w') [0, 1, 2, 3, 4, 5, 6, 7, 10, 13, 14, 15, 18, 8, 9, 11, 12, 16, 17, 19, 20] rfl (by kernel_rfl) (by kernel_rfl) (by kernel_rfl) rfl (fun wr kr _ => ⟨Kp.below kr (Nat.le_refl _) (fun _ _ e => e), ?_⟩)))
      have hlr : Below wq.heap.size wq wr := Kp.below kr (Nat.le_refl _) (fun _ _ e => e)
      (repeat (first | refine f_p (kk := ?_) | refine f_r (kk := fun _ _ _ _ => ?_) | refine f_K (kk := fun _ => ?_) | refine f_D (kk := ?_) | refine f_S (kk := ?_) | refine f_B (kk := ?_)))
      have hrs := restS_bd (g := fun k => false || k == (i : Int)) hC c.length (Nat.le_refl _) (2 ^ j)
      have hij := hC.bd i j hi (by omega)
      have hent : (row c (i : Int)).getD ((j : Int)).toNat 0 = ent c i j := by rw [hrow, Int.toNat_natCast]; rfl
      rw [hent]
      have hent2 : -1000 ≤ ent c i j ∧ ent c i j ≤ 1000 := hij
      refine OrdF.cut (π' := [16, 17, 19, 20]) (L' := [true, true, true, true, true, true, true, true, true, true, true, true, true, true, true, true, false, false, true, false, false]) (fun ρ wx => ∃ b79 b80, ρ = [(1, .pointer (some ⟨b1, 0, none⟩)), (3, .pointer (some ⟨b3, 0, none⟩)), (4, .pointer (some ⟨b4, 0, none⟩)), (5, .int .i64 i), (6, .int .i64 j), (26, .int .i64 (ent c i j)), (27, .slice Ac c.length cc), (28, .map (some b79)), (31, .map (some b80)), (34, .agg #[.int .i64 0, .int .i64 ((2 ^ j : Nat) : Int)]), (37, .int .i64 (totP c (firstS c c.length 0) c.length))] ∧ Below wq.heap.size wq wx ∧ wq.heap.size ≤ b79 ∧ b80 ≠ b79 ∧ MapK Try.prog 82 encP wx b79 (fun _ => none) ∧ MapB wx b80 (fun k => false || k == (i : Int))) (fun fin => ?_) ?_
      · refine OrdF.both 8 9 (by kernel_rfl) rfl rfl ?_ ?_
        · refine Ops.mkK (enc := encP) (kt := 82) rfl rfl rfl (fun wa ba hma hka hba hsa => ?_)
          have hla := Below.put hlr hka (fun _ e => e.elim)
          have sr := hlr.size
          refine Ops.nil (W.endl ⟨hla, ?_⟩)
          refine OrdF.one 9 (by kernel_rfl) rfl (Ops.mkM rfl rfl rfl (fun wb bb hmb hkb hbb => ?_))
          have hlb := Below.put hla hkb (fun _ e => e.elim)
          refine Ops.nil (W.endl ⟨hlb, ?_⟩)
          refine OrdF.one 11 (by kernel_rfl) rfl (Ops.ins rfl rfl rfl rfl rfl rfl rfl rfl hmb (fun wc hmc hkc hsc => ?_))
          have hlc := Below.put hlb hkc (fun k e => by have := hla.size; omega)
          refine Ops.nil (W.endl ⟨hlc, ?_⟩)
          refine f_p (kk := ?_)
          exact OrdF.sub (by repeat (first | exact trivial | refine And.intro rfl ?_)) (fin _ _ ⟨ba, bb, rfl, hlc, by omega, by have := hma.lt; omega, (hma.kp hkb (fun e => e)).kp hkc (fun e => by have := hma.lt; omega), hmc⟩)
        · refine Ops.mkM rfl rfl rfl (fun wa ba hma hka hba => ?_)
          have hla := Below.put hlr hka (fun _ e => e.elim)
          have sr := hlr.size
          have hsa := hma.lt
          refine Ops.nil (W.endl ⟨hla, ?_⟩)
          refine OrdF.both 8 11 (by kernel_rfl) rfl rfl ?_ ?_
          · refine Ops.mkK (enc := encP) (kt := 82) rfl rfl rfl (fun wb bb hmb hkb hbb hsb => ?_)
            have hlb := Below.put hla hkb (fun _ e => e.elim)
            refine Ops.nil (W.endl ⟨hlb, ?_⟩)
            refine OrdF.one 11 (by kernel_rfl) rfl (Ops.ins rfl rfl rfl rfl rfl rfl rfl rfl (hma.kp hkb (fun e => e)) (fun wc hmc hkc hsc => ?_))
            have hlc := Below.put hlb hkc (fun k e => by have := hla.size; omega)
            refine Ops.nil (W.endl ⟨hlc, ?_⟩)
            refine f_p (kk := ?_)
            exact OrdF.sub (by repeat (first | exact trivial | refine And.intro rfl ?_)) (fin _ _ ⟨bb, ba, rfl, hlc, by have := hla.size; omega, by omega, hmb.kp hkc (fun e => by omega), hmc⟩)
          · refine Ops.ins rfl rfl rfl rfl rfl rfl rfl rfl hma (fun wb hmb hkb hsb => ?_)
            have hlb := Below.put hla hkb (fun k e => by omega)
            refine Ops.nil (W.endl ⟨hlb, ?_⟩)
            refine OrdF.re [12, 8, 16, 17, 19, 20] rfl ?_
            refine f_p (kk := ?_)
            refine OrdF.one 8 (by kernel_rfl) rfl (Ops.mkK (enc := encP) (kt := 82) rfl rfl rfl (fun wc bc hmc hkc hbc hsc => ?_))
            have hlc := Below.put hlb hkc (fun _ e => e.elim)
            refine Ops.nil (W.endl ⟨hlc, ?_⟩)
            exact OrdF.sub (by repeat (first | exact trivial | refine And.intro rfl ?_)) (fin _ _ ⟨bc, ba, rfl, hlc, by have := hlb.size; omega, by have := hmb.lt; omega, hmc, hmb.kp hkc (fun e => e)⟩)
      · rintro ρ wx ⟨b79, b80, rfl, hlx, hge79, hne, hm79, hm80⟩
        have hbx := Below.via hbq hlx
        have sq := hbq.size
        refine OrdF.one 16 (by kernel_rfl) rfl (Ops.call rfl rfl rfl rfl rfl (rest0_c (w0 := w) (t := 2 ^ j) (g := fun k => false || k == (i : Int)) hM hC (by omega) (Nat.pow_lt_pow_right (by omega) hj) hbx hm79 (.inr ⟨b80, rfl, hne, hm80⟩)) (fun rr wy hR => ?_))
        obtain ⟨rfl, hky⟩ := hR
        have hly : Below wq.heap.size wq wy := Below.put hlx hky (fun k e => by omega)
        refine Ops.nil (W.endl ⟨hly, ?_⟩)
        have hlen2 : totP c (firstS c c.length 0) (firstS c c.length 0).length = totP c (firstS c c.length 0) c.length := by rw [hlen]
        rw [hlen2] at htb
        (repeat (first | refine f_p (kk := ?_) | refine f_a (kk := ?_)))
        refine OrdF.done (by kernel_rfl) (W.endl ?_)
        have hRy := hRW.below hly
        have h1y := h1.kp (Kp.of_below (S := fun _ => False) hly) (fun e => e)
        have h3y := h3.kp (Kp.of_below (S := fun _ => False) hly) (fun e => e)
        have h4y := h4.kp (Kp.of_below (S := fun _ => False) hly) (fun e => e)
        have h89y := h89.kp (Kp.of_below (S := fun _ => False) hly) (fun e => e)
        have hl4 := hRy.len
        have hrow2 := hRy.rows i hi
        have hTl : (slT c i j i).length = j := by simp [slT, slRow_len]
        refine Wi.seq (Wi.regionN rfl rfl ?_)
        (repeat (first | refine z_p (kk := ?_) | refine z_d (kk := ?_)))
        refine Ops.rdBn (enc := fun v : Value => v) (z := undef) rfl rfl rfl rfl rfl rfl (fun _ => rfl) rfl rfl rfl rfl rfl rfl hRy.o.sl (Below.refl _ _) (by omega) (fun _ => ?_)
        (repeat (first | refine z_p (kk := ?_)))
        refine Ops.pushO (enc := Value.int .i64) (u := slackE c i j) rfl rfl rfl rfl rfl rfl rfl rfl rfl rfl rfl rfl (fun _ => rfl) rfl hrow2 (by omega) (fun lv' p wz hOz kz hnz => ?_)
        have hav' : ∀ b, lv'.ownBlock = some b → wE.heap.size + 2 ≤ b := fun b hb => by
          rcases hnz b hb with e | e
          · exact hav i hi b e
          · have := hly.size; omega
        have kz' : ∀ b, b < wE.heap.size → ¬ (cvs.getD i undef).ownBlock = some b := fun b hb e => by have := hav i hi b e; omega
        have h1z := h1y.kp kz (kz' _ (by omega))
        have h3z := h3y.kp kz (kz' _ (by omega))
        have h4z := h4y.kp kz (kz' _ (by omega))
        have h89z := h89y.kp kz (kz' _ (by omega))
        have hov := hRy.o.kp kz (fun b e => ⟨hrow2.ge b e, (hRy.apart i hi b e).1⟩)
        have hr1 : lv'.oneCell' = true := by obtain ⟨A, c, rfl⟩ := hOz.sh; rfl
        (repeat (first | with_reducible refine Ops.nil ?_ | refine z_p (kk := ?_)))
        refine W.endl ?_
        refine Wi.regionN rfl rfl ?_
        (repeat (first | refine z_p (kk := ?_) | refine z_d (kk := ?_)))
        refine Ops.wrO (enc := fun v : Value => v) (u := lv') rfl rfl rfl rfl rfl rfl rfl rfl rfl rfl rfl rfl (by simp) hr1 hov (by omega) (fun wv p hOv kv hsv => ?_)
        have hstep := hRy.step hi hOz kz hnz hOv kv
        rw [slT_step] at hstep
        (repeat (first | with_reducible refine Ops.nil ?_))
        refine W.endl ⟨?_, .inl ⟨rfl, _, hstep, h1z.kp kv (fun e => by have := own_r e; omega), h3z.kp kv (fun e => by have := own_r e; omega), h4z.kp kv (fun e => by have := own_r e; omega), h89z.kp kv (fun e => by have := own_r e; omega), fun q hq b hb => ?_⟩⟩
        · refine (((Kp.of_below (S := fun _ => False) hly).trans kz).trans kv).mono (fun b hb e => ?_)
          rcases e with (e | e) | e
          · exact e.elim
          · have := hav i hi b e; exact ⟨by omega, by omega⟩
          · have := own_r e; exact ⟨by omega, by omega⟩
        · by_cases e : q = i
          · subst e
            rw [setV_eq (by omega)] at hb
            exact hav' b hb
          · rw [setV_ne (fun h => e h.symm)] at hb
            exact hav q hq b hb
    · obtain ⟨cvs, hR, h1, h3, h4, h89, hav⟩ := h
      have hR' : RW w w3 (.slice (some ⟨r, 0, none⟩) c.length c.length) cvs c.length (fun q => slRow c q c.length) := ⟨hR.o, hR.len, fun j hj => by
        have := hR.rows j hj
        unfold slT at this
        rwa [if_pos hj] at this, hR.apart⟩
      (repeat (first | with_reducible refine W.seq ?_ | with_reducible refine Ops.nil ?_ | with_reducible refine W.region ?_ | refine z_p (kk := ?_) | refine z_d (kk := ?_)))
      refine W.ret ⟨rfl, hdf, _, fun a hr => run_results hr rfl, ?_⟩
      exact ⟨cvs, hR'.kp (kp_putObj (r := D) (.deferred none)) (fun b e => ⟨by have := hbE.size; omega, fun e2 => by have := own_r e2; omega, fun j hj e2 => by have := hav j hj b e2; omega⟩)⟩
theorem Slack_c {w : World} {cv : Value} {c : List (List Int)} (hM : RowsM w cv c) : Calls Try.prog 30 #[cv] w (Ret fun r w' => (costsB c = false → r = .tuple #[.slice none 0 0, .int .i64 2] ∧ Below w.heap.size w w') ∧ (costsB c = true → ∃ v cvs, r = .tuple #[v, .int .i64 0] ∧ RW w w' v cvs c.length (fun q => slRow c q c.length))) := by
  obtain ⟨Ac, cc, rfl⟩ := hM.sl
  refine calls_W (vs := [_]) Try.func30 rfl (by kernel_rfl) rfl ?_
  (repeat (first | with_reducible refine W.seq ?_ | with_reducible refine Ops.nil ?_ | with_reducible refine W.region ?_ | refine z_p (kk := ?_)))
  refine Ops.call rfl rfl rfl rfl rfl (areCosts_c hM) (fun r w1 hR => ?_)
  obtain ⟨rfl, hb1⟩ := hR
  cases hcB : costsB c with
  | false =>
    (repeat (first | with_reducible refine Ops.nil ?_ | refine z_p (kk := ?_)))
    refine W.condT rfl (by first | rfl | assumption | (simp only [bnf] <;> omega) | (simp only [*, bnf]; done) | fail) ?_
    (repeat (first | with_reducible refine W.seq ?_ | with_reducible refine Ops.nil ?_ | with_reducible refine W.region ?_ | refine z_p (kk := ?_)))
    exact W.fret rfl ⟨fun _ => ⟨rfl, hb1⟩, fun h => by cases h⟩
  | true =>
    (repeat (first | with_reducible refine Ops.nil ?_ | refine z_p (kk := ?_)))
    refine W.condF rfl (by first | rfl | assumption | (simp only [bnf] <;> omega) | (simp only [*, bnf]; done) | fail) ?_
    (repeat (first | with_reducible refine W.seq ?_ | with_reducible refine W.region ?_ | refine z_p (kk := ?_) | with_reducible refine W.skip ?_))
    refine Ops.call rfl rfl rfl rfl rfl (slack_c (hM.below hb1) (costs_iff.1 hcB)) (fun v w2 hR => ?_)
    obtain ⟨cvs, hR⟩ := hR
    (repeat (first | with_reducible refine Ops.nil ?_ | refine z_p (kk := ?_)))
    exact W.fret rfl ⟨fun h => (by cases h), fun _ => ⟨v, cvs, rfl, hR.up hb1⟩⟩
end Go.Proofs.Ytehjmakiljhjdaa
namespace Go.Proofs.Ytehjmakiljhjdaa
open Go Go.RowKit Go.Proofs.Ytehjmakiljhjdaa.VW
attribute [local irreducible] W Ops OrdA VW.Ord OrdX
theorem lit1 {w w' : World} {r : Nat} {x : Int} (h : Mk w w' r (.cells #[.int .i64 x] 3)) : SlI w' (.slice (some ⟨r, 0, none⟩) 1 1) [x] := own_sl (e := 3) (own_one h)
theorem lit2 {w w' : World} {r : Nat} {x y : Int} (h : Mk w w' r (.cells #[.int .i64 x, .int .i64 y] 3)) : SlI w' (.slice (some ⟨r, 0, none⟩) 2 2) [x, y] := by
  refine ⟨by simp, _, _, rfl, fun _ => ⟨_, rfl, fun j hj => ?_⟩⟩
  rw [add_lit]
  have hB : Blk w' r #[.int .i64 x, .int .i64 y] 3 := h.at_
  match j, hj with
  | 0, _ => exact hB.cell rfl
  | 1, _ => exact hB.cell rfl
theorem lit2R {w w' : World} {r : Nat} {v1 v2 : Value} {x y : List Int} (h : Mk w w' r (.cells #[v1, v2] 23)) (h1 : SlI w' v1 x) (h2 : SlI w' v2 y) : RowsM w' (.slice (some ⟨r, 0, none⟩) 2 2) [x, y] := by
  refine ⟨by simp, _, _, [v1, v2], rfl, fun _ => ⟨_, rfl, fun j hj => ?_⟩, fun j hj => ?_⟩
  · rw [add_lit]
    have hB : Blk w' r #[v1, v2] 23 := h.at_
    match j, hj with
    | 0, _ => exact hB.cell rfl
    | 1, _ => exact hB.cell rfl
  · match j, hj with
    | 0, _ => exact h1
    | 1, _ => exact h2
theorem Mk.bel {w w' : World} {r : Nat} {o : Obj} (h : Mk w w' r o) : Below w.heap.size w w' := Below.put (Below.refl _ _) h.kp (fun _ e => e.elim)
abbrev c0 : List (List Int) := [[1, 2], [3, 5]]
theorem c0_costs : costsB c0 = true := by decide +kernel
theorem c0_first : firstS c0 c0.length 0 = [1, 0] := by decide +kernel
theorem c0_slack : (List.range c0.length).map (fun q => slRow c0 q c0.length) = [[1, 0], [0, 1]] := by decide +kernel
theorem c0_pays : paysS c0 (firstS c0 c0.length 0) c0.length = [0, 1] := by decide +kernel
theorem c0_block : BlkS c0 2 [1] := by decide +kernel
theorem c0_fit1 : fitsS c0 1 c0.length [] = none := by decide +kernel
theorem c0_fit2 : fitsS c0 2 c0.length [] = none := by decide +kernel
theorem c0_fit3 : fitsS c0 3 c0.length [] = some [1, 0] := by decide +kernel
theorem c0_nar {a b : List Int} {x : Int} (h : NarS c0 a x b) : a = [1, 0] ∧ x = 3 := by
  have hm : x = 1 ∨ x = 2 ∨ x = 3 ∨ x = 5 := by have := h.mem; simpa using this
  rcases hm with rfl | rfl | rfl | rfl
  · have := h.fit; rw [c0_fit1] at this; cases this
  · have := h.fit; rw [c0_fit2] at this; cases this
  · have := h.fit; rw [c0_fit3] at this; cases this; exact ⟨rfl, rfl⟩
  · have := h.least 3 (by simp) (by omega); rw [c0_fit3] at this; cases this
set_option maxHeartbeats 2000000 in
theorem awake_c (w : World) : Calls Try.prog 21 #[] w (Ret fun r w' => r = .bool true ∧ Below w.heap.size w w') := by
  refine calls_W (vs := []) Try.func21 rfl (by kernel_rfl) rfl ?_
  (repeat (first | with_reducible refine W.seq ?_ | with_reducible refine Ops.nil ?_ | with_reducible refine W.region ?_ | refine z_p (kk := ?_)))
  refine Ops.bs2 rfl rfl rfl rfl rfl rfl rfl rfl rfl rfl rfl (fun w1 r1 hM1 => ?_)
  skip
  refine Ops.bs2 rfl rfl rfl rfl rfl rfl rfl rfl rfl rfl rfl (fun w2 r2 hM2 => ?_)
  skip
  refine Ops.bs2 rfl rfl rfl rfl rfl rfl rfl rfl rfl rfl rfl (fun w3 r3 hM3 => ?_)
  have hM : RowsM w3 (.slice (some ⟨r3, 0, none⟩) 2 2) c0 := lit2R hM3 (Sl.below (lit2 hM1) (Below.via (Mk.bel hM2) (Mk.bel hM3))) (Sl.below (lit2 hM2) (Mk.bel hM3))
  have hb3 : Below w.heap.size w w3 := Below.via (Mk.bel hM1) (Below.via (Mk.bel hM2) (Mk.bel hM3))
  have hC : Cst c0 := costs_iff.1 c0_costs
  (repeat (first | with_reducible refine W.seq ?_ | with_reducible refine Ops.nil ?_ | with_reducible refine W.region ?_ | refine z_p (kk := ?_)))
  refine Ops.call rfl rfl rfl rfl rfl (Best_c hM) (fun r w4 hR => ?_)
  obtain ⟨hb4, -, hR⟩ := hR
  obtain ⟨av, uv, vv, u, v, rfl, ha, hu, hv, hP⟩ := hR c0_costs
  rw [c0_first] at ha hP
  have hM4 := hM.below hb4
  (repeat (first | with_reducible refine W.seq ?_ | with_reducible refine Ops.nil ?_ | with_reducible refine W.region ?_ | refine z_p (kk := ?_)))
  refine Ops.call rfl rfl rfl rfl rfl (Slack_c hM4) (fun r w5 hR => ?_)
  obtain ⟨-, hR⟩ := hR
  obtain ⟨sv, scv, rfl, hS⟩ := hR c0_costs
  have hb5 := hS.o.bel
  have hM5 := hM4.below hb5
  (repeat (first | with_reducible refine W.seq ?_ | with_reducible refine Ops.nil ?_ | with_reducible refine W.region ?_ | refine z_p (kk := ?_)))
  refine Ops.call rfl rfl rfl rfl rfl (Narrow_c hM5) (fun r w6 hR => ?_)
  obtain ⟨hb6, -, hR⟩ := hR
  obtain ⟨nv, x, bv, na, nb, rfl, hna, hnb, hN⟩ := hR c0_costs
  obtain ⟨rfl, rfl⟩ := c0_nar hN
  have hM6 := hM5.below hb6
  (repeat (first | with_reducible refine W.seq ?_ | with_reducible refine Ops.nil ?_ | with_reducible refine W.region ?_ | refine z_p (kk := ?_)))
  refine Ops.call rfl rfl rfl rfl rfl (pays_c hM6) (fun r w7 hR => ?_)
  obtain ⟨-, hR⟩ := hR
  obtain ⟨pv, rfl, hp⟩ := hR c0_costs
  rw [c0_pays] at hp
  have hb7 := hp.bel
  have hM7 := hM6.below hb7
  (repeat (first | with_reducible refine W.seq ?_ | with_reducible refine Ops.nil ?_ | with_reducible refine W.region ?_ | refine z_p (kk := ?_)))
  refine Ops.bs1 rfl rfl rfl rfl rfl rfl rfl rfl rfl (fun w8 r8 hM8 => ?_)
  have hb8 := Mk.bel hM8
  skip
  refine Ops.call rfl rfl rfl rfl rfl (IsBlock_c (hM7.below hb8) (lit1 hM8)) (fun r w9 hR => ?_)
  obtain ⟨rfl, hb9⟩ := hR
  rw [c0_costs, if_pos rfl, decide_eq_true c0_block]
  have hb79 := Below.via hb8 hb9
  have hb69 := Below.via hb7 hb79
  have hb59 := Below.via hb6 hb69
  have hb49 := Below.via hb5 hb59
  (repeat (first | with_reducible refine W.seq ?_ | with_reducible refine Ops.nil ?_ | with_reducible refine W.region ?_ | refine z_p (kk := ?_) | refine z_y (kk := ?_)))
  refine Ops.bs2 rfl rfl rfl rfl rfl rfl rfl rfl rfl rfl rfl (fun w10 r10 hM10 => ?_)
  have hb10 := Mk.bel hM10
  (repeat (first | refine z_y (kk := ?_)))
  refine Ops.call rfl rfl rfl rfl rfl (ints_c (Sl.below ha.sl (Below.via hb49 hb10)) (lit2 hM10)) (fun r w11 hR => ?_)
  obtain ⟨rfl, hb11⟩ := hR
  rw [decide_eq_true (show ([1, 0] : List Int) = [1, 0] from rfl)]
  have hb911 := Below.via hb10 hb11
  have hb411 := Below.via hb49 hb911
  (repeat (first | refine z_p (kk := ?_) | refine z_y (kk := ?_)))
  refine Ops.call rfl rfl rfl rfl rfl (proves_c (hM4.below hb411) hC (Sl.below ha.sl hb411) (Sl.below hu.sl hb411) (Sl.below hv.sl hb411)) (fun r w12 hR => ?_)
  obtain ⟨rfl, hb12⟩ := hR
  rw [decide_eq_true hP]
  have hb512 := Below.via hb59 (Below.via hb911 hb12)
  (repeat (first | refine z_p (kk := ?_) | refine z_y (kk := ?_)))
  refine Ops.bs2 rfl rfl rfl rfl rfl rfl rfl rfl rfl rfl rfl (fun w13 r13 hM13 => ?_)
  have hb13 := Mk.bel hM13
  (repeat (first | refine z_y (kk := ?_)))
  refine Ops.bs2 rfl rfl rfl rfl rfl rfl rfl rfl rfl rfl rfl (fun w14 r14 hM14 => ?_)
  have hb14 := Mk.bel hM14
  (repeat (first | refine z_y (kk := ?_)))
  refine Ops.bs2 rfl rfl rfl rfl rfl rfl rfl rfl rfl rfl rfl (fun w15 r15 hM15 => ?_)
  have hb15 := Mk.bel hM15
  have hT15 : RowsM w15 (.slice (some ⟨r15, 0, none⟩) 2 2) [[1, 0], [0, 1]] := lit2R hM15 (Sl.below (lit2 hM13) (Below.via hb14 hb15)) (Sl.below (lit2 hM14) hb15)
  have hS5 := hS.rowsM
  rw [c0_slack] at hS5
  have hb1215 := Below.via hb13 (Below.via hb14 hb15)
  (repeat (first | refine z_y (kk := ?_)))
  refine Ops.call rfl rfl rfl rfl rfl (tables_c (hS5.below (Below.via hb512 hb1215)) hT15) (fun r w16 hR => ?_)
  obtain ⟨rfl, hb16⟩ := hR
  rw [decide_eq_true (show ([[1, 0], [0, 1]] : List (List Int)) = [[1, 0], [0, 1]] from rfl)]
  have hb916 := Below.via hb911 (Below.via hb12 (Below.via hb1215 hb16))
  (repeat (first | refine z_p (kk := ?_) | refine z_y (kk := ?_)))
  refine Ops.bs2 rfl rfl rfl rfl rfl rfl rfl rfl rfl rfl rfl (fun w17 r17 hM17 => ?_)
  have hb17 := Mk.bel hM17
  (repeat (first | refine z_y (kk := ?_)))
  refine Ops.call rfl rfl rfl rfl rfl (ints_c (Sl.below hna (Below.via hb69 (Below.via hb916 hb17))) (lit2 hM17)) (fun r w18 hR => ?_)
  obtain ⟨rfl, hb18⟩ := hR
  rw [decide_eq_true (show ([1, 0] : List Int) = [1, 0] from rfl)]
  have hb918 := Below.via hb916 (Below.via hb17 hb18)
  (repeat (first | refine z_p (kk := ?_) | refine z_y (kk := ?_)))
  refine Ops.bs2 rfl rfl rfl rfl rfl rfl rfl rfl rfl rfl rfl (fun w19 r19 hM19 => ?_)
  have hb19 := Mk.bel hM19
  (repeat (first | refine z_y (kk := ?_)))
  refine Ops.call rfl rfl rfl rfl rfl (ints_c (Sl.below hp.sl (Below.via hb79 (Below.via hb918 hb19))) (lit2 hM19)) (fun r w20 hR => ?_)
  obtain ⟨rfl, hb20⟩ := hR
  rw [decide_eq_true (show ([0, 1] : List Int) = [0, 1] from rfl)]
  have hb020 := Below.via hb3 (Below.via hb4 (Below.via hb49 (Below.via hb918 (Below.via hb19 hb20))))
  (repeat (first | with_reducible refine Ops.nil ?_ | refine z_p (kk := ?_) | refine z_y (kk := ?_)))
  refine W.condF rfl (by first | rfl | assumption | (simp only [bnf] <;> omega) | (simp only [*, bnf]; done) | fail) ?_
  (repeat (first | with_reducible refine W.seq ?_ | with_reducible refine Ops.nil ?_ | with_reducible refine W.region ?_ | refine z_p (kk := ?_) | with_reducible refine W.skip ?_))
  exact W.fret rfl ⟨rfl, hb020⟩
end Go.Proofs.Ytehjmakiljhjdaa
/- Arguments as the walks read them. -/
namespace Go.Proofs.Ytehjmakiljhjdaa.VW
open Go Go.RowKit
theorem sl_open {w : World} {x : Addr} {len cap : Nat} {zs : List Int} (hl : len ≤ cap) (hm : cap ≤ maxLen) (hz : zs.length = cap) (hc : ∀ i, i < zs.length → w.cell? (x.add i) = some (.int .i64 (zs.getD i 0))) : SlI w (.slice (some x) len cap) (zs.take len) := by
  have hlen : (zs.take len).length = len := by rw [List.length_take]; omega
  refine ⟨by rw [hlen]; simp only [maxLen] at hm; omega, some x, cap, by rw [hlen], fun _ => ⟨x, rfl, fun j hj => ?_⟩⟩
  rw [hlen] at hj
  rw [hc j (by omega)]
  simp [List.getD_eq_getElem?_getD, List.getElem?_take, hj]
end Go.Proofs.Ytehjmakiljhjdaa.VW
/- Lists of lists among the arguments. -/
namespace Go.Proofs.Ytehjmakiljhjdaa
open Go Go.RowKit Go.ChangeShapes Go.Proofs.Ytehjmakiljhjdaa.VW
theorem add_zero' (p : Addr) : p.add 0 = p := by simp [Addr.add]
theorem arg_open {w : World} {x : Addr} {len cap : Nat} {zs : List Int} (hl : len ≤ cap) (hm : cap ≤ maxLen) (hz : zs.length = cap) (hc : ∀ i, i < zs.length → w.cell? (x.add i) = some (.int .i64 (zs.getD i 0))) : Arg w (.slice (some x) len cap) (zs.take len) := by
  have hlen : (zs.take len).length = len := by rw [List.length_take]; omega
  exact ⟨sl_open hl hm hz hc, some x, cap, by rw [hlen], by omega⟩
theorem ints_arg {H : Type} {enc : TypeId × Value → H} {P : Program} {W : World} {t e : TypeId} {fuel : Nat} {v : Value} {x : DataW H × List MemPlace} (ht : P.underlying t = some (.slice e)) (he : P.underlying e = some (.int .i64)) (hc : P.cellsOf e = 1)
    (h : DataW.trod enc P W 0 (fun _ => true) true fuel t [v] = some x) : ∃ zs, Arg W v zs := by
  rcases open_ints ht he hc h with ⟨hcs, _⟩ | ⟨x, l, c, zs, hcs, _, hl, hm, hz, _, hcell, hwz⟩
  · simp at hcs
    subst hcs
    exact ⟨[], Sl.nil _ _ _ _ _, none, 0, rfl, Nat.le_refl _⟩
  · simp at hcs
    subst hcs
    exact ⟨_, arg_open hl hm (by simpa using hz) hcell⟩
theorem rows_arg {H : Type} {enc : TypeId × Value → H} {P : Program} {W : World} {t s e : TypeId} {fuel : Nat} {v : Value} {x : DataW H × List MemPlace} (ht : P.underlying t = some (.slice s))
    (hs : P.underlying s = some (.slice e)) (he : P.underlying e = some (.int .i64)) (hcs : P.cellsOf s = 1) (hce : P.cellsOf e = 1)
    (h : DataW.trod enc P W 0 (fun _ => true) true fuel t [v] = some x) : ∃ l, ArgR W v l := by
  rcases DataW.trod_slice ht h with ⟨hv, _⟩ | ⟨a, len, cap, elems, rest, n, _, hv, _, hb, hl, hm2, hlen, hel, _, _⟩
  · simp at hv
    subst hv
    refine ⟨[], ⟨by simp, none, 0, [], rfl, fun h => by simp at h, fun j hj => by simp at hj⟩, fun i h1 h2 => by simp at h2; omega⟩
  · simp at hv
    subst hv
    have each : ∀ i, i < len → ∃ (cv : Value) (xs : List Int), W.cell? (a.add (i * 1)) = some cv ∧ Arg W cv xs := by
      intro i hi
      have hy := hel i hi
      rw [List.getElem?_eq_getElem (by omega), hcs, Option.bind_eq_some_iff] at hy
      obtain ⟨cs, hcs2, hst⟩ := hy
      obtain ⟨_, hcl, hcc⟩ := World.cells?_some hcs2
      obtain ⟨c0, rfl⟩ : ∃ c0, cs = [c0] := by
        match cs, hcl with
        | [c0], _ => exact ⟨c0, rfl⟩
      obtain ⟨zs, hz⟩ := ints_arg hs he hce hst
      have g0 := hcc 0 (by omega)
      simp only [List.getElem?_cons_zero] at g0
      rw [show ∀ p : Addr, p.add 0 = p from add_zero'] at g0
      exact ⟨c0, zs, g0, hz⟩
    have hx : ∀ i, ∃ q : Value × List Int, i < len → W.cell? (a.add (i * 1)) = some q.1 ∧ Arg W q.1 q.2 := fun i => by
      by_cases hi : i < len
      · obtain ⟨cv, xs, g⟩ := each i hi
        exact ⟨⟨cv, xs⟩, fun _ => g⟩
      · exact ⟨⟨undef, []⟩, fun h => absurd h hi⟩
    let q : Nat → Value × List Int := fun i => Classical.choose (hx i)
    have hq : ∀ i, i < len → W.cell? (a.add (i * 1)) = some (q i).1 ∧ Arg W (q i).1 (q i).2 := fun i => Classical.choose_spec (hx i)
    let l : List (List Int) := (List.range len).map fun i => (q i).2
    have hll : l.length = len := by simp [l]
    have hlg : ∀ i, i < len → l.getD i [] = (q i).2 := fun i hi => by simp [l, List.getD_eq_getElem?_getD, hi]
    let cvs : List Value := (List.range len).map fun i => (q i).1
    have hcg : ∀ i, i < len → cvs.getD i undef = (q i).1 := fun i hi => by simp [cvs, List.getD_eq_getElem?_getD, hi]
    simp only [maxLen] at hm2
    have hT : RowsM W (.slice (some a) len cap) l := by
      refine ⟨by rw [hll]; omega, some a, cap, cvs, by rw [hll], fun _ => ⟨a, rfl, fun j hj => ?_⟩, fun j hj => ?_⟩
      · rw [hll] at hj
        rw [hcg j hj]
        have := (hq j hj).1
        rwa [Nat.mul_one] at this
      · rw [hll] at hj
        rw [hcg j hj, hlg j hj]
        exact (hq j hj).2.1
    refine ⟨l, hT, fun i h0 hi => ?_⟩
    rw [hll] at hi
    obtain ⟨g0, g2, A', c', g3, g4⟩ := hq i.toNat (by omega)
    have hk : row l i = (q i.toNat).2 := by unfold row; rw [hlg i.toNat (by omega)]
    rw [hk]
    refine ⟨a, cap, A', c', by rw [hll], by rw [← g3]; exact g2, g4, fun w' hb => ?_⟩
    have kk := Kp.of_below (S := fun _ => False) hb
    rw [← g3]
    exact cell_kp kk g0 (fun e => e)
end Go.Proofs.Ytehjmakiljhjdaa
/- Arrays among the arguments. -/
namespace Go.Proofs.Ytehjmakiljhjdaa
open Go Go.RowKit Go.ChangeShapes Go.Proofs.Ytehjmakiljhjdaa.VW
theorem arr_open {H : Type} {enc : TypeId × Value → H} {P : Program} {W : World} {r : Reach} {b0 : Nat} {t e : TypeId} {n fuel : Nat} {v : Value} {x : DataW H × List MemPlace} (ht : P.underlying t = some (.array n e)) (hct : P.cellsOf t = n) (hce : P.cellsOf e = 1)
    (hval : Value.okWide P W r b0 t v) (h : DataW.trod enc P W 0 (fun _ => true) true fuel t v.cells.toList = some x) : ∃ cs : List Value, v = .agg cs.toArray ∧ cs.length = n ∧ ∀ i, i < n → ∃ m y, DataW.trod enc P W 0 (fun _ => true) true m e [cs.getD i undef] = some y := by
  simp only [Value.okWide, ht] at hval
  obtain ⟨cs, rfl, h2, _⟩ := hval
  obtain ⟨xs, m, _, _, _, hl, hi⟩ := DataW.trod_array ht h
  have hcl : cs.toList.length = n := by rw [Array.length_toList, h2, hct]
  refine ⟨cs.toList, by simp, hcl, fun i hin => ?_⟩
  have := hi i hin
  rw [List.getElem?_eq_getElem (by omega), hce, Nat.mul_one] at this
  have e1 : (cs.toList.drop i).take 1 = [cs.toList.getD i undef] := by
    rw [List.drop_eq_getElem_cons (by omega)]
    rw [Array.length_toList] at hcl
    simp [List.getD_eq_getElem?_getD, show i < cs.size by omega]
  have e2 : (Value.agg cs).cells.toList = cs.toList := rfl
  rw [e2, e1] at this
  exact ⟨m, _, this⟩
theorem iarr2 {H : Type} {enc : TypeId × Value → H} {P : Program} {W : World} {r : Reach} {b0 : Nat} {t e : TypeId} {fuel : Nat} {v : Value} {x : DataW H × List MemPlace} (ht : P.underlying t = some (.array 2 e)) (he : P.underlying e = some (.int .i64)) (hct : P.cellsOf t = 2) (hce : P.cellsOf e = 1)
    (hval : Value.okWide P W r b0 t v) (h : DataW.trod enc P W 0 (fun _ => true) true fuel t v.cells.toList = some x) : ∃ a b : Int, v = .agg #[.int .i64 a, .int .i64 b] := by
  obtain ⟨cs, rfl, hl, hi⟩ := arr_open ht hct hce hval h
  obtain ⟨c0, c1, rfl⟩ : ∃ c0 c1, cs = [c0, c1] := by
    match cs, hl with
    | [c0, c1], _ => exact ⟨c0, c1, rfl⟩
  obtain ⟨_, _, h0⟩ := hi 0 (by omega)
  obtain ⟨_, _, h1⟩ := hi 1 (by omega)
  obtain ⟨a, e0, _⟩ := DataW.trod_int he h0
  obtain ⟨b, e1, _⟩ := DataW.trod_int he h1
  simp at e0 e1
  exact ⟨a, b, by rw [e0, e1]⟩
theorem iarr5 {H : Type} {enc : TypeId × Value → H} {P : Program} {W : World} {r : Reach} {b0 : Nat} {t e : TypeId} {fuel : Nat} {v : Value} {x : DataW H × List MemPlace} (ht : P.underlying t = some (.array 5 e)) (he : P.underlying e = some (.int .i64)) (hct : P.cellsOf t = 5) (hce : P.cellsOf e = 1)
    (hval : Value.okWide P W r b0 t v) (h : DataW.trod enc P W 0 (fun _ => true) true fuel t v.cells.toList = some x) : ∃ a b c d f : Int, v = .agg #[.int .i64 a, .int .i64 b, .int .i64 c, .int .i64 d, .int .i64 f] := by
  obtain ⟨cs, rfl, hl, hi⟩ := arr_open ht hct hce hval h
  obtain ⟨c0, c1, c2, c3, c4, rfl⟩ : ∃ c0 c1 c2 c3 c4, cs = [c0, c1, c2, c3, c4] := by
    match cs, hl with
    | [c0, c1, c2, c3, c4], _ => exact ⟨c0, c1, c2, c3, c4, rfl⟩
  obtain ⟨_, _, h0⟩ := hi 0 (by omega)
  obtain ⟨_, _, h1⟩ := hi 1 (by omega)
  obtain ⟨_, _, h2⟩ := hi 2 (by omega)
  obtain ⟨_, _, h3⟩ := hi 3 (by omega)
  obtain ⟨_, _, h4⟩ := hi 4 (by omega)
  obtain ⟨a, e0, _⟩ := DataW.trod_int he h0
  obtain ⟨b, e1, _⟩ := DataW.trod_int he h1
  obtain ⟨c, e2, _⟩ := DataW.trod_int he h2
  obtain ⟨d, e3, _⟩ := DataW.trod_int he h3
  obtain ⟨f, e4, _⟩ := DataW.trod_int he h4
  simp at e0 e1 e2 e3 e4
  exact ⟨a, b, c, d, f, by rw [e0, e1, e2, e3, e4]⟩
theorem larr3 {H : Type} {enc : TypeId × Value → H} {P : Program} {W : World} {r : Reach} {b0 : Nat} {t s e : TypeId} {fuel : Nat} {v : Value} {x : DataW H × List MemPlace} (ht : P.underlying t = some (.array 3 s)) (hs : P.underlying s = some (.slice e)) (he : P.underlying e = some (.int .i64)) (hct : P.cellsOf t = 3) (hcs : P.cellsOf s = 1) (hce : P.cellsOf e = 1)
    (hval : Value.okWide P W r b0 t v) (h : DataW.trod enc P W 0 (fun _ => true) true fuel t v.cells.toList = some x) : ∃ (v0 v1 v2 : Value) (x0 x1 x2 : List Int), v = .agg #[v0, v1, v2] ∧ Arg W v0 x0 ∧ Arg W v1 x1 ∧ Arg W v2 x2 := by
  obtain ⟨cs, rfl, hl, hi⟩ := arr_open ht hct hcs hval h
  obtain ⟨c0, c1, c2, rfl⟩ : ∃ c0 c1 c2, cs = [c0, c1, c2] := by
    match cs, hl with
    | [c0, c1, c2], _ => exact ⟨c0, c1, c2, rfl⟩
  obtain ⟨_, _, h0⟩ := hi 0 (by omega)
  obtain ⟨_, _, h1⟩ := hi 1 (by omega)
  obtain ⟨_, _, h2⟩ := hi 2 (by omega)
  obtain ⟨x0, g0⟩ := ints_arg hs he hce h0
  obtain ⟨x1, g1⟩ := ints_arg hs he hce h1
  obtain ⟨x2, g2⟩ := ints_arg hs he hce h2
  exact ⟨c0, c1, c2, x0, x1, x2, rfl, g0, g1, g2⟩
end Go.Proofs.Ytehjmakiljhjdaa
namespace Go.Proofs.Ytehjmakiljhjdaa
open Go Go.RowKit Go.Proofs.Ytehjmakiljhjdaa.VW
attribute [local irreducible] W Ops OrdA VW.Ord OrdX
theorem oi_arg {w0 w : World} {v : Value} {xs : List Int} (h : OI 3 (Value.int .i64) w0 w v xs) : Arg w v xs := by
  have hs := h.sl (z := (0 : Int))
  obtain ⟨A, c, rfl⟩ := h.sh
  exact ⟨hs, A, c, rfl, own_cap h.own⟩
theorem Total_c {w : World} {cv lv : Value} {c : List (List Int)} {a : List Int} (hM : RowsM w cv c) (hl : Arg w lv a) : Calls Try.prog 38 #[cv, lv] w (Ret fun r w' => r = (if costsB c = true ∧ Asg a c.length then .tuple #[.int .i64 (totP c a c.length), .int .i64 0] else .tuple #[.int .i64 0, .int .i64 2]) ∧ Below w.heap.size w w') := by
  obtain ⟨Ac, cc, rfl⟩ := hM.sl
  obtain ⟨Al, cl, rfl⟩ := Sl.shape hl.1
  refine calls_W (vs := [_, _]) Try.func38 rfl (by kernel_rfl) rfl ?_
  (repeat (first | with_reducible refine W.seq ?_ | with_reducible refine Ops.nil ?_ | with_reducible refine W.region ?_ | refine z_p (kk := ?_)))
  refine Ops.call rfl rfl rfl rfl rfl (areCosts_c hM) (fun r w1 hR => ?_)
  obtain ⟨rfl, hb1⟩ := hR
  cases hc : costsB c with
  | false =>
    (repeat (first | with_reducible refine Ops.nil ?_ | refine z_p (kk := ?_) | refine z_n (kk := ?_)))
    refine W.condT rfl (by first | rfl | assumption | (simp only [bnf] <;> omega) | (simp only [*, bnf]; done) | fail) ?_
    (repeat (first | with_reducible refine W.seq ?_ | with_reducible refine Ops.nil ?_ | with_reducible refine W.region ?_ | refine z_p (kk := ?_)))
    refine W.fret rfl ⟨?_, hb1⟩
    rw [if_neg (by simp)]
    rfl
  | true =>
    have hC := costs_iff.1 hc
    have hn7 := hC.n7
    (repeat (first | refine z_p (kk := ?_) | refine z_y (kk := ?_)))
    refine Ops.call rfl rfl rfl rfl rfl (isAsg_c (hM.below hb1) hn7 (hl.below hb1)) (fun r w2 hR => ?_)
    obtain ⟨rfl, rfl⟩ := hR
    by_cases hA : Asg a c.length
    · rw [decide_eq_true hA]
      (repeat (first | with_reducible refine Ops.nil ?_ | refine z_p (kk := ?_) | refine z_y (kk := ?_)))
      refine W.condF rfl (by first | rfl | assumption | (simp only [bnf] <;> omega) | (simp only [*, bnf]; done) | fail) ?_
      (repeat (first | with_reducible refine W.seq ?_ | with_reducible refine W.region ?_ | refine z_p (kk := ?_) | with_reducible refine W.skip ?_))
      refine Ops.call rfl rfl rfl rfl rfl (total_c (hM.below hb1) hC (Sl.below hl.1 hb1) (fun i hi => (hA.2 i hi).1) (by rw [hA.1]; exact Nat.le_refl _)) (fun r w3 hR => ?_)
      obtain ⟨rfl, rfl⟩ := hR
      (repeat (first | with_reducible refine Ops.nil ?_ | refine z_p (kk := ?_)))
      refine W.fret rfl ⟨?_, hb1⟩
      rw [if_pos ⟨rfl, hA⟩, hA.1]
      rfl
    · rw [decide_eq_false hA]
      (repeat (first | with_reducible refine Ops.nil ?_ | refine z_p (kk := ?_) | refine z_y (kk := ?_)))
      refine W.condT rfl (by first | rfl | assumption | (simp only [bnf] <;> omega) | (simp only [*, bnf]; done) | fail) ?_
      (repeat (first | with_reducible refine W.seq ?_ | with_reducible refine Ops.nil ?_ | with_reducible refine W.region ?_ | refine z_p (kk := ?_)))
      refine W.fret rfl ⟨?_, hb1⟩
      rw [if_neg (by simp [hA])]
      rfl
end Go.Proofs.Ytehjmakiljhjdaa
namespace Go.Proofs.Ytehjmakiljhjdaa.VW
open Go Go.RowKit
theorem RW.argR {w0 w : World} {ov : Value} {cvs : List Value} {n : Nat} {T : Nat → List Int} (h : RW w0 w ov cvs n T) : ArgR w ov ((List.range n).map T) := by
  refine ⟨h.rowsM, fun i h0 hi => ?_⟩
  have hlen : ((List.range n).map T).length = n := by simp
  rw [hlen] at hi ⊢
  have hin : i.toNat < n := by omega
  have hcl := h.len
  obtain ⟨g, cap, e, hcell⟩ := own_at h.o.own (by omega)
  have hr := h.rows i.toNat hin
  obtain ⟨A', k', he⟩ := hr.sh
  have hrow : row ((List.range n).map T) i = T i.toNat := by simp [row, List.getD_eq_getElem?_getD, hin]
  have hsl := hr.sl (z := (0 : Int))
  have hown := hr.own
  rw [he] at hsl hown
  rw [hrow]
  refine ⟨⟨g, 0, none⟩, cap, A', k', by rw [e, hcl], hsl, own_cap hown, fun w' hb => ?_⟩
  have hc := hcell i.toNat (by omega)
  rw [add_lit, Nat.mul_one, Nat.zero_add]
  have hc2 : w.cell? ⟨g, i.toNat, none⟩ = some (.slice A' (T i.toNat).length k') := by
    rw [hc]
    simp only [List.map_id'] at *
    rw [he]
  exact cell_kp (Kp.of_below (S := fun _ => False) hb) hc2 (fun e => e)
end Go.Proofs.Ytehjmakiljhjdaa.VW
namespace Go.Proofs.Ytehjmakiljhjdaa.VW
open Go Go.RowKit
theorem run_res1 {P : Program} [Tab P] {n : Nat} {ρ : E} {w : World} {fn : Func} {a t b t' : Nat} {v : Value} (hres : fn.results = #[.cell a t]) (hl : look ρ a = some (.pointer (some ⟨b, 0, none⟩))) (hs : tyS P t = some 1) (hg : tyAgg P t = some false)
    (hb : Blk w b #[v] t') : ∀ act, Rep n act ρ → (results fn act.tmps).run P w = .ok v w := by
  intro act hr
  have hsl := hr.slot a _ hl
  rw [Array.getD_eq_getD_getElem?] at hsl
  have hc : w.cell? ⟨b, 0, none⟩ = some v := hb.cell rfl
  simp [results, hres, hsl, asAddr, loadVar, run_isAgg hg, load, Sem.run, hc]
end Go.Proofs.Ytehjmakiljhjdaa.VW
namespace Go.Proofs.Ytehjmakiljhjdaa
open Go Go.RowKit Go.Proofs.Ytehjmakiljhjdaa.VW
attribute [local irreducible] W Ops OrdA VW.Ord OrdX Wi OpsI
def badP (x : Int) : Bool := !inR x (-1000000) 1000000
theorem badP_c (x : Int) (w : World) : Calls Try.prog 67 #[.int .i64 x] w (Ret fun v w' => v = .bool (badP x) ∧ Below w.heap.size w w') := by
  refine calls_W (vs := [_]) Try.func67 rfl (by kernel_rfl) rfl ?_
  (repeat (first | with_reducible refine W.seq ?_ | with_reducible refine Ops.nil ?_ | with_reducible refine W.region ?_ | refine z_p (kk := ?_)))
  refine Ops.callS rfl rfl rfl rfl rfl (within_c _ _ _ _) ?_
  (repeat (first | with_reducible refine Ops.nil ?_ | refine z_p (kk := ?_)))
  exact W.fret rfl ⟨rfl, Below.refl _ _⟩
theorem any_badP {u : List Int} : u.any badP = false ↔ ∀ i, i < u.length → Bd u i := by
  rw [List.any_eq_false]
  constructor
  · intro h i hi
    have := h _ (getD_memI hi)
    unfold badP inR at this
    unfold Bd
    simp only [Bool.not_eq_true', Bool.and_eq_false_iff, decide_eq_false_iff_not, not_or, Classical.not_not] at this
    exact this
  · intro h x hx
    obtain ⟨i, hi, rfl⟩ := mem_getDI hx
    have := h i hi
    unfold Bd at this
    unfold badP inR
    simp only [Bool.not_eq_true', Bool.and_eq_false_iff, decide_eq_false_iff_not, not_or, Classical.not_not]
    exact this
set_option maxHeartbeats 4000000 in
theorem Check_c {w : World} {cv av uv vv : Value} {c : List (List Int)} {a u v : List Int} (hM : RowsM w cv c) (ha : Arg w av a) (hu : SlI w uv u) (hv : SlI w vv v) :
    Calls Try.prog 40 #[cv, av, uv, vv] w (Ret fun r w' => r = .int .i64 (if costsB c = true then (if Prov c a u v then 0 else 10) else 2) ∧ Below w.heap.size w w') := by
  have hul := Sl.len hu
  have hvl := Sl.len hv
  have hal := Sl.len ha.1
  obtain ⟨Ac, cc, rfl⟩ := hM.sl
  obtain ⟨Aa, ca, rfl⟩ := Sl.shape ha.1
  obtain ⟨Au, cu, rfl⟩ := Sl.shape hu
  obtain ⟨Av, cv, rfl⟩ := Sl.shape hv
  refine calls_W (vs := [_, _, _, _]) Try.func40 rfl (by kernel_rfl) rfl ?_
  (repeat (first | with_reducible refine W.seq ?_ | with_reducible refine W.region ?_))
  refine Ops.box rfl rfl rfl rfl (fun w1 b4 hM4 => ?_)
  refine Ops.box rfl rfl rfl rfl (fun w2 b6 hM6 => ?_)
  refine Ops.box rfl rfl rfl rfl (fun w3 b7 hM7 => ?_)
  refine Ops.alloc rfl rfl rfl rfl (fun w4 b8 hM8 => ?_)
  have e4 := hM4.r_eq
  have e6 := hM6.r_eq
  have e7 := hM7.r_eq
  have e8 := hM8.r_eq
  have s4 := hM4.size
  have s6 := hM6.size
  have s7 := hM7.size
  have s8 := hM8.size
  have h14 := Mk.bel hM4
  have h26 := Mk.bel hM6
  have h37 := Mk.bel hM7
  have h48 := Mk.bel hM8
  have hb : Below w.heap.size w w4 := Below.via h14 (Below.via h26 (Below.via h37 h48))
  have B4 : Blk w4 b4 #[.slice Ac c.length cc] 22 := Blk.kp hM4.at_ (Kp.of_below (S := fun _ => False) (Below.via h26 (Below.via h37 h48))) (fun e => e)
  have B6 : Blk w4 b6 #[.slice Au u.length cu] 23 := Blk.kp hM6.at_ (Kp.of_below (S := fun _ => False) (Below.via h37 h48)) (fun e => e)
  have B7 : Blk w4 b7 #[.slice Av v.length cv] 23 := Blk.kp hM7.at_ (Kp.of_below (S := fun _ => False) h48) (fun e => e)
  have B8 : Blk w4 b8 #[.int .i64 0] 26 := hM8.at_
  have hM' := hM.below hb
  have ha' := ha.below hb
  have hu' := Sl.below hu hb
  have hv' := Sl.below hv hb
  clear hM4 hM6 hM7 hM8 hM ha hu hv
  (repeat (first | with_reducible refine W.seq ?_ | with_reducible refine Ops.nil ?_ | with_reducible refine W.region ?_ | refine z_d (kk := ?_)))
  refine Ops.call rfl rfl rfl rfl rfl (areCosts_c hM') (fun r w5 hR => ?_)
  obtain ⟨rfl, hb5⟩ := hR
  have B85 : Blk w5 b8 #[.int .i64 0] 26 := B8.kp (Kp.of_below (S := fun _ => False) hb5) (fun e => e)
  have hb05 := Below.via hb hb5
  cases hc : costsB c with
  | false =>
    (repeat (first | with_reducible refine Ops.nil ?_ | refine z_p (kk := ?_)))
    refine W.condT rfl (by first | rfl | assumption | (simp only [bnf] <;> omega) | (simp only [*, bnf]; done) | fail) ?_
    (repeat (first | with_reducible refine W.seq ?_ | with_reducible refine W.region ?_))
    refine Ops.st rfl rfl rfl rfl rfl rfl rfl B85 (by simp) (fun w6 hu6 => ?_)
    have B86 : Blk w6 b8 #[.int .i64 2] 26 := by simpa using hu6.blk
    (repeat (first | with_reducible refine Ops.nil ?_))
    refine W.ret ⟨_, run_res1 rfl rfl rfl rfl B86, ?_, Below.put hb05 hu6.kp (fun i e => by omega)⟩
    rw [if_neg (by simp)]
  | true =>
    have hC := costs_iff.1 hc
    have hn7 := hC.n7
    rw [if_pos rfl]
    have bad10 : ∀ {k : List It} {ρ : E} {wx wy : World} {ds : List Deferred}, ¬ Prov c a u v → Below w.heap.size w wx → VW.look ρ 8 = some (.pointer (some ⟨b8, 0, none⟩)) → Upd wx wy b8 #[.int .i64 10] 26 → VW.W Try.prog Try.f40.ntmps ds (.code .ret :: k) (Fin Try.prog Try.f40 fun r w' => r = .int .i64 (if Prov c a u v then 0 else 10) ∧ Below w.heap.size w w') ρ wy := fun hno hbx hl hU => by
      refine W.ret ⟨_, run_res1 rfl hl rfl rfl hU.blk, ?_, Below.put hbx hU.kp (fun i e => by omega)⟩
      rw [if_neg hno]
    have hM5 := hM'.below hb5
    have ha5 := ha'.below hb5
    have hu5 := Sl.below hu' hb5
    have hv5 := Sl.below hv' hb5
    (repeat (first | with_reducible refine Ops.nil ?_ | refine z_p (kk := ?_)))
    refine W.condF rfl (by first | rfl | assumption | (simp only [bnf] <;> omega) | (simp only [*, bnf]; done) | fail) ?_
    (repeat (first | with_reducible refine W.seq ?_ | with_reducible refine Ops.nil ?_ | with_reducible refine W.region ?_ | refine z_p (kk := ?_) | with_reducible refine W.skip ?_ | refine z_D (kk := ?_)))
    refine Ops.call rfl rfl rfl rfl rfl (isAsg_c hM5 hn7 ha5) (fun r w6 hR => ?_)
    obtain ⟨rfl, rfl⟩ := hR
    by_cases hA : Asg a c.length
    · rw [decide_eq_true hA]
      by_cases hnu : u.length = c.length
      · by_cases hnv : v.length = c.length
        · (repeat (first | refine z_p (kk := ?_) | refine z_y (kk := ?_) | refine z_l (kk := ?_) | refine z_D (kk := ?_) | refine z_h (kk := ?_)))
          refine Ops.call rfl rfl rfl rfl rfl (containsF_c (fc := 67) (first := []) (cap := []) (p := badP) hu5 rfl rfl (fun x w' _ => badP_c x w')) (fun r w7 hR => ?_)
          obtain ⟨rfl, hb7⟩ := hR
          have B87 : Blk w7 b8 #[.int .i64 0] 26 := B85.kp (Kp.of_below (S := fun _ => False) hb7) (fun e => e)
          have hb07 := Below.via hb05 hb7
          have hb47 := Below.via hb5 hb7
          cases hau : u.any badP with
          | true =>
            have hno : ¬ Prov c a u v := fun h => by
              have := any_badP.2 (fun i hi => (h.2.2.2.1 i (by omega)).1)
              rw [hau] at this; cases this
            (repeat (first | with_reducible refine Ops.nil ?_ | refine z_p (kk := ?_) | refine z_n (kk := ?_)))
            refine W.condT rfl (by first | rfl | assumption | (simp only [bnf] <;> omega) | (simp only [*, bnf]; done) | fail) ?_
            (repeat (first | with_reducible refine W.seq ?_ | with_reducible refine W.region ?_))
            refine Ops.st rfl rfl rfl rfl rfl rfl rfl B87 (by simp) (fun w9 hu9 => ?_)
            (repeat (first | with_reducible refine Ops.nil ?_))
            exact bad10 hno hb07 rfl (by simpa using hu9)
          | false =>
            (repeat (first | refine z_p (kk := ?_) | refine z_y (kk := ?_) | refine z_D (kk := ?_)))
            refine Ops.call rfl rfl rfl rfl rfl (containsF_c (fc := 67) (first := []) (cap := []) (p := badP) (Sl.below hv5 hb7) rfl rfl (fun x w' _ => badP_c x w')) (fun r w8 hR => ?_)
            obtain ⟨rfl, hb8⟩ := hR
            have B88 : Blk w8 b8 #[.int .i64 0] 26 := B87.kp (Kp.of_below (S := fun _ => False) hb8) (fun e => e)
            have hb08 := Below.via hb07 hb8
            have hb48 := Below.via hb47 hb8
            cases hav : v.any badP with
            | true =>
              have hno : ¬ Prov c a u v := fun h => by
                have := any_badP.2 (fun i hi => (h.2.2.2.1 i (by omega)).2)
                rw [hav] at this; cases this
              (repeat (first | with_reducible refine Ops.nil ?_ | refine z_p (kk := ?_)))
              refine W.condT rfl (by first | rfl | assumption | (simp only [bnf] <;> omega) | (simp only [*, bnf]; done) | fail) ?_
              (repeat (first | with_reducible refine W.seq ?_ | with_reducible refine W.region ?_))
              refine Ops.st rfl rfl rfl rfl rfl rfl rfl B88 (by simp) (fun w9 hu9 => ?_)
              (repeat (first | with_reducible refine Ops.nil ?_))
              exact bad10 hno hb08 rfl (by simpa using hu9)
            | false =>
              have hbu := any_badP.1 hau
              have hbv := any_badP.1 hav
              (repeat (first | with_reducible refine Ops.nil ?_ | refine z_p (kk := ?_)))
              refine W.condF rfl (by first | rfl | assumption | (simp only [bnf] <;> omega) | (simp only [*, bnf]; done) | fail) ?_
              refine W.skip ?_
              refine W.toJ (JW.seq (by exact rfl) ?_)
              (repeat (first | with_reducible refine W.region ?_ | refine z_D (kk := ?_)))
              refine Ops.call rfl rfl rfl rfl rfl pairs_c (fun rv wE hR => ?_)
              obtain ⟨b89, rfl, hB89, hge89, hlE⟩ := hR
              have hb0E := Below.via hb08 hlE
              have hb4E := Below.via hb48 hlE
              have hb5E := Below.via (Below.via hb7 hb8) hlE
              have B8E : Blk wE b8 #[.int .i64 0] 26 := B88.kp (Kp.of_below (S := fun _ => False) hlE) (fun e => e)
              have B4E : Blk wE b4 #[.slice Ac c.length cc] 22 := B4.kp (Kp.of_below (S := fun _ => False) hb4E) (fun e => e)
              have B6E : Blk wE b6 #[.slice Au u.length cu] 23 := B6.kp (Kp.of_below (S := fun _ => False) hb4E) (fun e => e)
              have B7E : Blk wE b7 #[.slice Av v.length cv] 23 := B7.kp (Kp.of_below (S := fun _ => False) hb4E) (fun e => e)
              have hB89' : Blk wE b89 #[.slice Ac c.length cc] 71 := hB89
              have hME := hM'.below hb4E
              have haE := ha'.below hb4E
              have huE := Sl.below hu' hb4E
              have hvE := Sl.below hv' hb4E
              have s8E := B8E.lt
              have s89E := hB89'.lt
              have hbE5 : Below wE.heap.size wE wE := Below.refl _ _
              clear B4 B6 B7 B8 B85 B87 B88 hM' ha' hu' hv' hM5 ha5 hu5 hv5
              refine Ops.nil (W.endl ?_)
              refine JW.sub (ρ' := [(1, .slice Aa a.length ca), (4, .pointer (some ⟨b4, 0, none⟩)), (6, .pointer (some ⟨b6, 0, none⟩)), (7, .pointer (some ⟨b7, 0, none⟩)), (8, .pointer (some ⟨b8, 0, none⟩)), (46, .func (.func 89) #[] #[.pointer (some ⟨b89, 0, none⟩)])]) (by repeat (first | exact trivial | refine And.intro rfl ?_)) ?_
              refine JW.pairs (b1 := b89) (n := c.length) (A := Ac) (cap := cc) (I := fun i j W => Below wE.heap.size wE W ∧ ∀ p q, p < c.length → q < c.length → (p < i ∨ (p = i ∧ q < j)) → u.getD p 0 + v.getD q 0 ≤ ent c p q)
                (K := fun W => Kp (fun k => k = b8) wE W ∧ Blk W b8 #[.int .i64 10] 26 ∧ ¬ Prov c a u v) (by omega) rfl (by exact rfl) (by exact rfl) (by exact rfl) (fun i j W h => hB89'.kp (Kp.of_below (S := fun _ => False) h.1) (fun e => e)) (fun i W hi h => ⟨h.1, fun p q hp hq hpq => h.2 p q hp hq (by omega)⟩)
                (fun i j W W' h hk => ⟨Below.put h.1 hk (fun k e => by omega), h.2⟩) (fun W W' h hk => ⟨?_, h.2.1.kp hk (fun e => by omega), h.2.2⟩) ⟨hbE5, fun p q hp hq h => by omega⟩ (fun L i j wp hL h hi hj hW => ?_) (fun D w9 hD h hdf => ?_) (fun D w9 hD h hdf => ?_)
              · exact (h.1.trans hk).mono (fun k hk2 e => by omega)
              · refine Wi.seq (Wi.regionN rfl rfl ?_)
                (repeat (first | with_reducible refine Ops.nil ?_ | refine z_p (kk := ?_)))
                refine W.endl ?_
                refine Wi.regionN rfl rfl ?_
                (repeat (first | with_reducible refine Ops.nil ?_ | refine z_p (kk := ?_)))
                refine W.endl ⟨rfl, rfl, fun wq h' hq => ?_⟩
                have hbq := h'.1
                have hcl := hC.len i hi
                have hrow : row c (i : Int) = c.getD i [] := by simp [row]
                have hcb := hC.bd i j hi hj
                have hbu1 := hbu i (by omega)
                have hbv1 := hbv j (by omega)
                unfold Bd at hbu1 hbv1
                have hent : (row c (i : Int)).getD j 0 = ent c i j := by rw [hrow]; rfl
                rw [← hrow] at hcl hcb
                have hbqq : Below wq.heap.size wq wq := Below.refl _ _
                refine Wi.block (Wi.seq (Wi.ordA 99 [(0, 2), (1, 1), (2, 1), (3, 2), (4, 2), (5, 1), (6, 1), (7, 2), (8, 1), (9, 2), (10, 1), (11, 1), (12, 2), (13, 1), (14, 1), (15, 2), (16, 1)] rfl (by kernel_rfl) (by kernel_rfl) (by kernel_rfl) rfl (by kernel_rfl) ?_))
                (repeat (first | refine x_p (kk := ?_) | refine x_a (kk := ?_) | refine x_I (kk := fun _ => ?_) | refine x_r (kk := fun _ _ _ _ => ?_) | refine x_D (kk := ?_)))
                refine OrdA.nil (fun wr hbr => W.endl ?_)
                have hbr' : Kp (fun k => k ≠ wE.heap.size ∧ k ≠ wE.heap.size + 1) wq wr := Kp.of_below hbr
                have hbEr : Below wE.heap.size wE wr := Below.via hbq hbr
                refine Wi.cond rfl (fun hc => ?_) (fun hc => Wi.skip ⟨hbr', .inl ⟨rfl, hbEr, fun p q hp hq hpq => ?_⟩⟩)
                · have hgt : u.getD i 0 + v.getD j 0 > ent c i j := by rw [← hent]; simpa using hc
                  refine Wi.seq (Wi.regionN rfl rfl ?_)
                  refine Ops.st rfl rfl rfl rfl rfl rfl rfl (B8E.kp (Kp.of_below (S := fun _ => False) hbEr) (fun e => e)) (by simp) (fun ws hus => Ops.nil (W.endl ?_))
                  refine Wi.ret ⟨(hbr'.trans hus.kp).mono (fun k _ e => by rcases e with e | e; exact e; omega), .inr ⟨rfl, ((Kp.of_below (S := fun k => k = b8) hbEr).trans hus.kp).mono (fun k _ e => by rcases e with e | e <;> exact e), by simpa using hus.blk, fun h => ?_⟩⟩
                  have := h.2.2.2.2.1 i hi j hj
                  omega
                · by_cases e : p = i ∧ q = j
                  · rw [e.1, e.2, ← hent]
                    have hle : ¬ (u.getD i 0 + v.getD j 0 > (row c (i : Int)).getD j 0) := by simpa using hc
                    omega
                  · exact h'.2 p q hp hq (by omega)
              · obtain ⟨hbD, hall⟩ := h
                have hsD := hbD.size
                have hDlt : D < w9.heap.size := (Array.getElem?_eq_some_iff.1 hdf).1
                have hME9 := hME.below hbD
                have haE9 := haE.below hbD
                have huE9 := Sl.below huE hbD
                have hvE9 := Sl.below hvE hbD
                have B8D : Blk w9 b8 #[.int .i64 0] 26 := B8E.kp (Kp.of_below (S := fun _ => False) hbD) (fun e => e)
                have B4D : Blk w9 b4 #[.slice Ac c.length cc] 22 := B4E.kp (Kp.of_below (S := fun _ => False) hbD) (fun e => e)
                have B6D : Blk w9 b6 #[.slice Au u.length cu] 23 := B6E.kp (Kp.of_below (S := fun _ => False) hbD) (fun e => e)
                have B7D : Blk w9 b7 #[.slice Av v.length cv] 23 := B7E.kp (Kp.of_below (S := fun _ => False) hbD) (fun e => e)
                have hb0D := Below.via hb0E hbD
                have hb99 : Below w9.heap.size w9 w9 := Below.refl _ _
                clear B4E B6E B7E B8E
                (repeat (first | with_reducible refine W.seq ?_ | with_reducible refine Ops.nil ?_ | with_reducible refine W.region ?_ | refine z_p (kk := ?_) | with_reducible refine W.block ?_ | refine z_l (kk := ?_) | refine z_d (kk := ?_)))
                refine W.loop (fun m ρ w10 => ∃ (i : Nat), m = u.length - i ∧ i ≤ u.length ∧ ρ = [(1, .slice Aa a.length ca), (4, .pointer (some ⟨b4, 0, none⟩)), (6, .pointer (some ⟨b6, 0, none⟩)), (7, .pointer (some ⟨b7, 0, none⟩)), (8, .pointer (some ⟨b8, 0, none⟩)), (12, .int .i64 (sumP u v i)), (67, .int .i64 u.length), (68, .int .i64 i)] ∧ Below w9.heap.size w9 w10)
                  ⟨_, _, ⟨0, rfl, Nat.zero_le _, rfl, hb99⟩, (by repeat (first | exact trivial | refine And.intro rfl ?_))⟩ ?_
                clear hb99
                rintro m ρ w10 ⟨i, rfl, hi, rfl, hb10⟩
                have hsb := sumP_bd (u := u) (v := v) (n := c.length) (fun i hi => ⟨hbu i (by omega), hbv i (by omega)⟩) i (by omega)
                (repeat (first | with_reducible refine W.seq ?_ | with_reducible refine Ops.nil ?_ | with_reducible refine W.region ?_ | refine z_p (kk := ?_)))
                (first | refine W.condD rfl (fun hc => ?_) (fun hc => ?_) | refine W.condE rfl (fun hc => ?_) (fun hc => ?_) | refine W.condN rfl (fun hc => ?_) (fun hc => ?_) | refine W.cond rfl (fun hc => ?_) (fun hc => ?_))
                · have hil : i < u.length := by omega
                  have hbu1 := hbu i (by omega)
                  have hbv1 := hbv i (by omega)
                  unfold Bd at hbu1 hbv1
                  (repeat (first | with_reducible refine W.seq ?_ | with_reducible refine Ops.nil ?_ | with_reducible refine W.region ?_ | refine z_p (kk := ?_) | with_reducible refine W.skip ?_ | with_reducible refine W.block ?_))
                  refine W.ordA 99 [(0, 1), (1, 2), (2, 1), (3, 1), (4, 2), (5, 2), (6, 1), (7, 1), (8, 2), (9, 1), (10, 1), (11, 1)] rfl (by kernel_rfl) rfl (by kernel_rfl) (fun _ _ _ h => by cases h.1) ?_
                  (repeat (first | refine x_p (kk := ?_) | refine x_a (kk := ?_) | refine x_I (kk := fun _ => ?_) | refine x_D (kk := ?_)))
                  refine OrdA.nil (fun w11 hb11 => ?_)
                  have hsum : sumP u v i + (u.getD i 0 + v.getD i 0) = sumP u v (i + 1) := by simp only [sumP]; omega
                  (repeat (first | with_reducible refine Ops.nil ?_ | with_reducible refine W.region ?_ | refine z_p (kk := ?_) | refine z_a (kk := ?_) | with_reducible refine W.endb ?_))
                  refine W.endl ⟨_, _, ⟨⟨i + 1, rfl, by omega, rfl, Below.via hb10 hb11⟩, by omega⟩, ?_⟩
                  rw [← hsum]
                  exact (by repeat (first | exact trivial | refine And.intro rfl ?_))
                · have hil : i = c.length := by omega
                  subst hil
                  have hb010 := Below.via hb0D hb10
                  have B810 : Blk w10 b8 #[.int .i64 0] 26 := B8D.kp (Kp.of_below (S := fun _ => False) hb10) (fun e => e)
                  have hdf10 : w10.heap[D]? = some (.deferred (some [])) := (hb10.block D hDlt).trans hdf
                  have hDb8 : ¬ D = b8 := by omega
                  (repeat (first | with_reducible refine W.seq ?_ | with_reducible refine W.region ?_ | refine z_p (kk := ?_) | refine W.exit rfl ?_ | refine z_D (kk := ?_)))
                  refine Ops.call rfl rfl rfl rfl rfl (total_c (hME9.below hb10) hC (Sl.below haE9.1 hb10) (fun i hi => (hA.2 i hi).1) (by rw [hA.1]; exact Nat.le_refl _)) (fun r w11 hR => ?_)
                  obtain ⟨rfl, rfl⟩ := hR
                  rw [hA.1]
                  by_cases hs : sumP u v c.length = totP c a c.length
                  · have hP : Prov c a u v := ⟨hA, hnu, hnv, fun i hi => ⟨hbu i (by omega), hbv i (by omega)⟩, fun i hi j hj => hall i j hi hj (.inl hi), hs⟩
                    (repeat (first | with_reducible refine Ops.nil ?_ | refine z_p (kk := ?_)))
                    refine W.condF rfl (by first | rfl | assumption | (simp only [bnf] <;> omega) | (simp only [*, bnf]; done) | fail) ?_
                    (repeat (first | with_reducible refine W.seq ?_ | with_reducible refine W.region ?_ | with_reducible refine W.skip ?_))
                    refine Ops.st rfl rfl rfl rfl rfl rfl rfl B810 (by simp) (fun w12 hu12 => ?_)
                    have B812 : Blk w12 b8 #[.int .i64 0] 26 := by simpa using hu12.blk
                    (repeat (first | with_reducible refine Ops.nil ?_))
                    refine W.ret ⟨rfl, at_kp hdf10 hu12.kp hDb8, _, run_res1 rfl rfl rfl rfl (B812.kp (kp_putObj (r := D) (.deferred none)) (fun e => hDb8 e.symm)), ?_, ?_⟩
                    · rw [if_pos hP]
                    · exact Below.put (Below.put hb010 hu12.kp (fun k e => by omega)) (kp_putObj (r := D) (.deferred none)) (fun k e => by have := hb0E.size; omega)
                  · (repeat (first | with_reducible refine Ops.nil ?_ | refine z_p (kk := ?_)))
                    refine W.condT rfl (by first | rfl | assumption | (simp only [bnf] <;> omega) | (simp only [*, bnf]; done) | fail) ?_
                    (repeat (first | with_reducible refine W.seq ?_ | with_reducible refine W.region ?_))
                    refine Ops.st rfl rfl rfl rfl rfl rfl rfl B810 (by simp) (fun w12 hu12 => ?_)
                    have B812 : Blk w12 b8 #[.int .i64 10] 26 := by simpa using hu12.blk
                    (repeat (first | with_reducible refine Ops.nil ?_))
                    refine W.ret ⟨rfl, at_kp hdf10 hu12.kp hDb8, _, run_res1 rfl rfl rfl rfl (B812.kp (kp_putObj (r := D) (.deferred none)) (fun e => hDb8 e.symm)), ?_, ?_⟩
                    · rw [if_neg (fun h => hs h.2.2.2.2.2)]
                    · exact Below.put (Below.put hb010 hu12.kp (fun k e => by omega)) (kp_putObj (r := D) (.deferred none)) (fun k e => by have := hb0E.size; omega)
              · obtain ⟨hk, hB, hno⟩ := h
                refine ⟨_, run_res1 rfl rfl rfl rfl (hB.kp (kp_putObj (r := D) (.deferred none)) (fun e => by omega)), ?_, ?_⟩
                · rw [if_neg hno]
                · exact Below.put (Below.put hb0E hk (fun k e => by omega)) (kp_putObj (r := D) (.deferred none)) (fun k e => by have := hb0E.size; omega)
        · have hnv' : ¬ (v.length : Int) = c.length := by omega
          (repeat (first | with_reducible refine Ops.nil ?_ | refine z_p (kk := ?_) | refine z_y (kk := ?_) | refine z_n (kk := ?_) | refine z_l (kk := ?_) | refine z_D (kk := ?_) | refine z_g (kk := ?_) | refine z_h (kk := ?_)))
          refine W.condT rfl (by first | rfl | assumption | (simp only [bnf] <;> omega) | (simp only [*, bnf]; done) | fail) ?_
          (repeat (first | with_reducible refine W.seq ?_ | with_reducible refine W.region ?_))
          refine Ops.st rfl rfl rfl rfl rfl rfl rfl B85 (by simp) (fun w9 hu9 => ?_)
          (repeat (first | with_reducible refine Ops.nil ?_))
          exact bad10 (fun h => hnv h.2.2.1) hb05 rfl (by simpa using hu9)
      · have hnu' : ¬ (u.length : Int) = c.length := by omega
        (repeat (first | with_reducible refine Ops.nil ?_ | refine z_p (kk := ?_) | refine z_y (kk := ?_) | refine z_n (kk := ?_) | refine z_l (kk := ?_) | refine z_D (kk := ?_) | refine z_g (kk := ?_)))
        refine W.condT rfl (by first | rfl | assumption | (simp only [bnf] <;> omega) | (simp only [*, bnf]; done) | fail) ?_
        (repeat (first | with_reducible refine W.seq ?_ | with_reducible refine W.region ?_))
        refine Ops.st rfl rfl rfl rfl rfl rfl rfl B85 (by simp) (fun w9 hu9 => ?_)
        (repeat (first | with_reducible refine Ops.nil ?_))
        exact bad10 (fun h => hnu h.2.1) hb05 rfl (by simpa using hu9)
    · rw [decide_eq_false hA]
      (repeat (first | with_reducible refine Ops.nil ?_ | refine z_p (kk := ?_) | refine z_n (kk := ?_)))
      refine W.condT rfl (by first | rfl | assumption | (simp only [bnf] <;> omega) | (simp only [*, bnf]; done) | fail) ?_
      (repeat (first | with_reducible refine W.seq ?_ | with_reducible refine W.region ?_))
      refine Ops.st rfl rfl rfl rfl rfl rfl rfl B85 (by simp) (fun w9 hu9 => ?_)
      (repeat (first | with_reducible refine Ops.nil ?_))
      exact bad10 (fun h => hA h.1) hb05 rfl (by simpa using hu9)
end Go.Proofs.Ytehjmakiljhjdaa
