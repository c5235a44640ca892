/- A part of the walk: what this seat's statements share. -/
import Derived.Test.YtehjmakiljhjdaaZG4
import Derived.Test.YtehjmakiljhjdaaZG3
set_option linter.unusedVariables false
set_option linter.unusedSimpArgs false
set_option linter.unusedSectionVars false
namespace Go.Proofs.Ytehjmakiljhjdaa
open Go Go.RowKit Go.Proofs.Ytehjmakiljhjdaa.VW
attribute [local irreducible] W Ops OrdA VW.Ord OrdX
theorem index_c {w : World} {v : Value} {xs : List Int} {x : Int} (h : SlI w v xs) : Calls Try.prog 59 #[v, .int .i64 x] w (Ret fun r w' => (∃ k : Int, r = .int .i64 k ∧ (0 ≤ k ↔ x ∈ xs)) ∧ w' = w) := by
  have hl := Sl.len h
  obtain ⟨A, c, rfl⟩ := Sl.shape h
  refine calls_W (vs := [_, _]) Try.func59 rfl (by kernel_rfl) rfl ?_
  (repeat (first | with_reducible refine W.seq ?_ | with_reducible refine Ops.nil ?_ | with_reducible refine W.region ?_ | refine z_p (kk := ?_) | refine z_a (kk := ?_) | refine z_y (kk := ?_) | refine z_n (kk := ?_) | refine z_u (kk := ?_) | with_reducible refine W.skip ?_ | with_reducible refine W.endb ?_ | with_reducible refine W.block ?_ | refine W.exit rfl ?_ | refine z_l (kk := ?_) | refine z_f (kk := ?_) | refine z_M (kk := ?_) | refine z_m (kk := ?_) | refine z_e (kk := ?_) | refine z_E (kk := ?_) | refine z_d (kk := ?_) | refine z_I (kk := fun _ => ?_) | refine z_J (kk := fun _ => ?_) | refine z_K (kk := fun _ => ?_) | refine z_L (kk := fun _ => ?_) | refine z_T (kk := ?_) | refine z_F (kk := ?_) | refine z_r (kk := fun _ _ _ _ => ?_) | refine z_D (kk := ?_) | refine z_g (kk := ?_) | refine z_h (kk := ?_)))
  refine W.loop (fun m ρ w1 => ∃ (i : Nat), m = xs.length - i ∧ i ≤ xs.length ∧ ρ = [(0, .slice A xs.length c), (1, .int .i64 x), (7, .int .i64 xs.length), (8, .int .i64 i)] ∧ w1 = w ∧ ¬ x ∈ xs.take i)
    ⟨_, _, ⟨0, rfl, Nat.zero_le _, rfl, rfl, by simp⟩, (by repeat (first | exact trivial | refine And.intro rfl ?_))⟩ ?_
  rintro m ρ w1 ⟨i, rfl, hi, rfl, rfl, hno⟩
  (repeat (first | with_reducible refine W.seq ?_ | with_reducible refine Ops.nil ?_ | with_reducible refine W.region ?_ | refine z_p (kk := ?_) | refine z_a (kk := ?_) | refine z_y (kk := ?_) | refine z_n (kk := ?_) | refine z_u (kk := ?_) | with_reducible refine W.skip ?_ | with_reducible refine W.endb ?_ | with_reducible refine W.block ?_ | refine W.exit rfl ?_ | refine z_l (kk := ?_) | refine z_f (kk := ?_) | refine z_M (kk := ?_) | refine z_m (kk := ?_) | refine z_e (kk := ?_) | refine z_E (kk := ?_) | refine z_d (kk := ?_) | refine z_I (kk := fun _ => ?_) | refine z_J (kk := fun _ => ?_) | refine z_K (kk := fun _ => ?_) | refine z_L (kk := fun _ => ?_) | refine z_T (kk := ?_) | refine z_F (kk := ?_) | refine z_r (kk := fun _ _ _ _ => ?_) | refine z_D (kk := ?_) | refine z_g (kk := ?_) | refine z_h (kk := ?_)))
  (first | refine W.condD rfl (fun hc => ?_) (fun hc => ?_) | refine W.condE rfl (fun hc => ?_) (fun hc => ?_) | refine W.condN rfl (fun hc => ?_) (fun hc => ?_) | refine W.cond rfl (fun hc => ?_) (fun hc => ?_))
  · have hil : i < xs.length := by omega
    have ht : xs.take (i + 1) = xs.take i ++ [xs.getD i 0] := by rw [List.take_add_one]; congr 1; simp [List.getD_eq_getElem?_getD, hil]
    by_cases e : x = xs.getD i 0
    · (repeat (first | with_reducible refine W.seq ?_ | with_reducible refine Ops.nil ?_ | with_reducible refine W.region ?_ | refine z_p (kk := ?_) | refine z_a (kk := ?_) | refine z_y (kk := ?_) | refine z_n (kk := ?_) | refine z_u (kk := ?_) | with_reducible refine W.skip ?_ | with_reducible refine W.endb ?_ | with_reducible refine W.block ?_ | refine W.exit rfl ?_ | refine z_l (kk := ?_) | refine z_f (kk := ?_) | refine z_M (kk := ?_) | refine z_m (kk := ?_) | refine z_e (kk := ?_) | refine z_E (kk := ?_) | refine z_d (kk := ?_) | refine z_I (kk := fun _ => ?_) | refine z_J (kk := fun _ => ?_) | refine z_K (kk := fun _ => ?_) | refine z_L (kk := fun _ => ?_) | refine z_T (kk := ?_) | refine z_F (kk := ?_) | refine z_r (kk := fun _ _ _ _ => ?_) | refine z_D (kk := ?_) | refine z_g (kk := ?_) | refine z_h (kk := ?_)))
      refine W.condT rfl (by first | rfl | assumption | (simp only [bnf] <;> omega) | (simp only [*, bnf]; done) | fail) ?_
      (repeat (first | with_reducible refine W.seq ?_ | with_reducible refine Ops.nil ?_ | with_reducible refine W.region ?_ | refine z_p (kk := ?_) | refine z_a (kk := ?_) | refine z_y (kk := ?_) | refine z_n (kk := ?_) | refine z_u (kk := ?_) | with_reducible refine W.skip ?_ | with_reducible refine W.endb ?_ | with_reducible refine W.block ?_ | refine W.exit rfl ?_ | refine z_l (kk := ?_) | refine z_f (kk := ?_) | refine z_M (kk := ?_) | refine z_m (kk := ?_) | refine z_e (kk := ?_) | refine z_E (kk := ?_) | refine z_d (kk := ?_) | refine z_I (kk := fun _ => ?_) | refine z_J (kk := fun _ => ?_) | refine z_K (kk := fun _ => ?_) | refine z_L (kk := fun _ => ?_) | refine z_T (kk := ?_) | refine z_F (kk := ?_) | refine z_r (kk := fun _ _ _ _ => ?_) | refine z_D (kk := ?_) | refine z_g (kk := ?_) | refine z_h (kk := ?_)))
      exact W.fret rfl ⟨⟨i, rfl, fun _ => by rw [e]; exact getD_memI hil, fun _ => by omega⟩, rfl⟩
    · (repeat (first | with_reducible refine W.seq ?_ | with_reducible refine Ops.nil ?_ | with_reducible refine W.region ?_ | refine z_p (kk := ?_) | refine z_a (kk := ?_) | refine z_y (kk := ?_) | refine z_n (kk := ?_) | refine z_u (kk := ?_) | with_reducible refine W.skip ?_ | with_reducible refine W.endb ?_ | with_reducible refine W.block ?_ | refine W.exit rfl ?_ | refine z_l (kk := ?_) | refine z_f (kk := ?_) | refine z_M (kk := ?_) | refine z_m (kk := ?_) | refine z_e (kk := ?_) | refine z_E (kk := ?_) | refine z_d (kk := ?_) | refine z_I (kk := fun _ => ?_) | refine z_J (kk := fun _ => ?_) | refine z_K (kk := fun _ => ?_) | refine z_L (kk := fun _ => ?_) | refine z_T (kk := ?_) | refine z_F (kk := ?_) | refine z_r (kk := fun _ _ _ _ => ?_) | refine z_D (kk := ?_) | refine z_g (kk := ?_) | refine z_h (kk := ?_)))
      refine W.condF rfl (by first | rfl | assumption | (simp only [bnf] <;> omega) | (simp only [*, bnf]; done) | fail) ?_
      (repeat (first | with_reducible refine W.seq ?_ | with_reducible refine Ops.nil ?_ | with_reducible refine W.region ?_ | refine z_p (kk := ?_) | refine z_a (kk := ?_) | refine z_y (kk := ?_) | refine z_n (kk := ?_) | refine z_u (kk := ?_) | with_reducible refine W.skip ?_ | with_reducible refine W.endb ?_ | with_reducible refine W.block ?_ | refine W.exit rfl ?_ | refine z_l (kk := ?_) | refine z_f (kk := ?_) | refine z_M (kk := ?_) | refine z_m (kk := ?_) | refine z_e (kk := ?_) | refine z_E (kk := ?_) | refine z_d (kk := ?_) | refine z_I (kk := fun _ => ?_) | refine z_J (kk := fun _ => ?_) | refine z_K (kk := fun _ => ?_) | refine z_L (kk := fun _ => ?_) | refine z_T (kk := ?_) | refine z_F (kk := ?_) | refine z_r (kk := fun _ _ _ _ => ?_) | refine z_D (kk := ?_) | refine z_g (kk := ?_) | refine z_h (kk := ?_)))
      exact W.endl ⟨_, _, ⟨⟨i + 1, rfl, by omega, rfl, rfl, by rw [ht]; simp only [List.mem_append, List.mem_singleton, not_or]; exact ⟨hno, e⟩⟩, by omega⟩, (by repeat (first | exact trivial | refine And.intro rfl ?_))⟩
  · have hil : i = xs.length := by omega
    subst hil
    rw [List.take_length] at hno
    (repeat (first | with_reducible refine W.seq ?_ | with_reducible refine Ops.nil ?_ | with_reducible refine W.region ?_ | refine z_p (kk := ?_) | refine z_a (kk := ?_) | refine z_y (kk := ?_) | refine z_n (kk := ?_) | refine z_u (kk := ?_) | with_reducible refine W.skip ?_ | with_reducible refine W.endb ?_ | with_reducible refine W.block ?_ | refine W.exit rfl ?_ | refine z_l (kk := ?_) | refine z_f (kk := ?_) | refine z_M (kk := ?_) | refine z_m (kk := ?_) | refine z_e (kk := ?_) | refine z_E (kk := ?_) | refine z_d (kk := ?_) | refine z_I (kk := fun _ => ?_) | refine z_J (kk := fun _ => ?_) | refine z_K (kk := fun _ => ?_) | refine z_L (kk := fun _ => ?_) | refine z_T (kk := ?_) | refine z_F (kk := ?_) | refine z_r (kk := fun _ _ _ _ => ?_) | refine z_D (kk := ?_) | refine z_g (kk := ?_) | refine z_h (kk := ?_)))
    exact W.fret rfl ⟨⟨-1, rfl, by simp [hno]⟩, rfl⟩
theorem contains_c {w : World} {v : Value} {xs : List Int} {x : Int} (h : SlI w v xs) : Calls Try.prog 60 #[v, .int .i64 x] w (Ret fun r w' => r = .bool (decide (x ∈ xs)) ∧ w' = w) := by
  refine calls_W (vs := [_, _]) Try.func60 rfl (by kernel_rfl) rfl ?_
  (repeat (first | with_reducible refine W.seq ?_ | with_reducible refine Ops.nil ?_ | with_reducible refine W.region ?_ | refine z_p (kk := ?_) | refine z_a (kk := ?_) | refine z_y (kk := ?_) | refine z_n (kk := ?_) | refine z_u (kk := ?_) | with_reducible refine W.skip ?_ | with_reducible refine W.endb ?_ | with_reducible refine W.block ?_ | refine W.exit rfl ?_ | refine z_l (kk := ?_) | refine z_f (kk := ?_) | refine z_M (kk := ?_) | refine z_m (kk := ?_) | refine z_e (kk := ?_) | refine z_E (kk := ?_) | refine z_d (kk := ?_) | refine z_I (kk := fun _ => ?_) | refine z_J (kk := fun _ => ?_) | refine z_K (kk := fun _ => ?_) | refine z_L (kk := fun _ => ?_) | refine z_T (kk := ?_) | refine z_F (kk := ?_) | refine z_r (kk := fun _ _ _ _ => ?_) | refine z_D (kk := ?_) | refine z_g (kk := ?_) | refine z_h (kk := ?_)))
  refine Ops.call rfl rfl rfl rfl rfl (index_c h) (fun r w1 hR => ?_)
  obtain ⟨⟨k, rfl, hk⟩, rfl⟩ := hR
  (repeat (first | with_reducible refine W.seq ?_ | with_reducible refine Ops.nil ?_ | with_reducible refine W.region ?_ | refine z_p (kk := ?_) | refine z_a (kk := ?_) | refine z_y (kk := ?_) | refine z_n (kk := ?_) | refine z_u (kk := ?_) | with_reducible refine W.skip ?_ | with_reducible refine W.endb ?_ | with_reducible refine W.block ?_ | refine W.exit rfl ?_ | refine z_l (kk := ?_) | refine z_f (kk := ?_) | refine z_M (kk := ?_) | refine z_m (kk := ?_) | refine z_e (kk := ?_) | refine z_E (kk := ?_) | refine z_d (kk := ?_) | refine z_I (kk := fun _ => ?_) | refine z_J (kk := fun _ => ?_) | refine z_K (kk := fun _ => ?_) | refine z_L (kk := fun _ => ?_) | refine z_T (kk := ?_) | refine z_F (kk := ?_) | refine z_r (kk := fun _ _ _ _ => ?_) | refine z_D (kk := ?_) | refine z_g (kk := ?_) | refine z_h (kk := ?_)))
  refine W.fret rfl ⟨?_, rfl⟩
  show Value.bool _ = _
  congr 1
  rw [Bool.eq_iff_iff, decide_eq_true_iff, decide_eq_true_iff, ← hk]
/-- An assignment of n buttons. -/
def Asg (a : List Int) (n : Nat) : Prop := a.length = n ∧ ∀ i, i < a.length → (0 ≤ a.getD i 0 ∧ a.getD i 0 < n) ∧ ∀ k, k < i → a.getD k 0 ≠ a.getD i 0
instance (a : List Int) (n : Nat) : Decidable (Asg a n) := by unfold Asg; infer_instance
theorem take_mem {xs : List Int} {i : Nat} {x : Int} (hi : i ≤ xs.length) : x ∈ xs.take i ↔ ∃ k, k < i ∧ xs.getD k 0 = x := by
  constructor
  · intro h
    obtain ⟨k, hk, e⟩ := mem_getDI h
    rw [List.length_take] at hk
    refine ⟨k, by omega, ?_⟩
    rw [← e]
    simp [List.getD_eq_getElem?_getD, List.getElem?_take, show k < i by omega]
  · rintro ⟨k, hk, rfl⟩
    have : (xs.take i).getD k 0 = xs.getD k 0 := by simp [List.getD_eq_getElem?_getD, List.getElem?_take, hk]
    rw [← this]
    exact getD_memI (by rw [List.length_take]; omega)
theorem sl_take {w : World} {A : Option Addr} {m c : Nat} {xs : List Int} (h : SlI w (.slice A m c) xs) (q : Nat) (hq : q ≤ xs.length) : SlI w (.slice A q c) (xs.take q) := by
  obtain ⟨h1, A', c', e, h2⟩ := h
  cases e
  have hl : (xs.take q).length = q := by rw [List.length_take]; omega
  refine ⟨by omega, A, c, by rw [hl], fun hp => ?_⟩
  obtain ⟨a, rfl, hc⟩ := h2 (by omega)
  refine ⟨a, rfl, fun j hj => ?_⟩
  rw [hc j (by omega)]
  simp [List.getD_eq_getElem?_getD, List.getElem?_take, show j < q by omega]
/-- A list of numbers that has room for itself. -/
def Arg (w : World) (v : Value) (xs : List Int) : Prop := SlI w v xs ∧ ∃ A c, v = .slice A xs.length c ∧ xs.length ≤ c
theorem Arg.below {w w' : World} {v : Value} {xs : List Int} (h : Arg w v xs) (k : Below w.heap.size w w') : Arg w' v xs := ⟨Sl.below h.1 k, h.2⟩
theorem isAsg_c {w : World} {cv v : Value} {c : List (List Int)} {xs : List Int} (hC : RowsM w cv c) (hn : c.length ≤ 7) (h : Arg w v xs) : Calls Try.prog 66 #[cv, v] w (Ret fun r w' => r = .bool (decide (Asg xs c.length)) ∧ w' = w) := by
  have hl := Sl.len h.1
  obtain ⟨Ac, cc, rfl⟩ := hC.sl
  obtain ⟨hs, A, k, rfl, hk⟩ := h
  refine calls_W (vs := [_, _]) Try.func66 rfl (by kernel_rfl) rfl ?_
  by_cases hlen : xs.length = c.length
  · (repeat (first | with_reducible refine W.seq ?_ | with_reducible refine Ops.nil ?_ | with_reducible refine W.region ?_ | refine z_p (kk := ?_) | refine z_a (kk := ?_) | refine z_y (kk := ?_) | refine z_n (kk := ?_) | refine z_u (kk := ?_) | with_reducible refine W.skip ?_ | with_reducible refine W.endb ?_ | with_reducible refine W.block ?_ | refine W.exit rfl ?_ | refine z_l (kk := ?_) | refine z_f (kk := ?_) | refine z_M (kk := ?_) | refine z_m (kk := ?_) | refine z_e (kk := ?_) | refine z_E (kk := ?_) | refine z_d (kk := ?_) | refine z_I (kk := fun _ => ?_) | refine z_J (kk := fun _ => ?_) | refine z_K (kk := fun _ => ?_) | refine z_L (kk := fun _ => ?_) | refine z_T (kk := ?_) | refine z_F (kk := ?_) | refine z_r (kk := fun _ _ _ _ => ?_) | refine z_D (kk := ?_) | refine z_g (kk := ?_) | refine z_h (kk := ?_)))
    refine W.condF rfl (by first | rfl | assumption | (simp only [bnf] <;> omega) | (simp only [*, bnf]; done) | fail) ?_
    (repeat (first | with_reducible refine W.seq ?_ | with_reducible refine Ops.nil ?_ | with_reducible refine W.region ?_ | refine z_p (kk := ?_) | refine z_a (kk := ?_) | refine z_y (kk := ?_) | refine z_n (kk := ?_) | refine z_u (kk := ?_) | with_reducible refine W.skip ?_ | with_reducible refine W.endb ?_ | with_reducible refine W.block ?_ | refine W.exit rfl ?_ | refine z_l (kk := ?_) | refine z_f (kk := ?_) | refine z_M (kk := ?_) | refine z_m (kk := ?_) | refine z_e (kk := ?_) | refine z_E (kk := ?_) | refine z_d (kk := ?_) | refine z_I (kk := fun _ => ?_) | refine z_J (kk := fun _ => ?_) | refine z_K (kk := fun _ => ?_) | refine z_L (kk := fun _ => ?_) | refine z_T (kk := ?_) | refine z_F (kk := ?_) | refine z_r (kk := fun _ _ _ _ => ?_) | refine z_D (kk := ?_) | refine z_g (kk := ?_) | refine z_h (kk := ?_)))
    refine W.loop (fun m ρ w1 => ∃ (i : Nat), m = xs.length - i ∧ i ≤ xs.length ∧ ρ = [(0, .slice Ac c.length cc), (1, .slice A xs.length k), (12, .slice A xs.length k), (13, .int .i64 xs.length), (14, .int .i64 i)] ∧ w1 = w ∧ ∀ j, j < i → (0 ≤ xs.getD j 0 ∧ xs.getD j 0 < c.length) ∧ ∀ q, q < j → xs.getD q 0 ≠ xs.getD j 0)
      ⟨_, _, ⟨0, rfl, Nat.zero_le _, rfl, rfl, fun j hj => by omega⟩, (by repeat (first | exact trivial | refine And.intro rfl ?_))⟩ ?_
    rintro m ρ w1 ⟨i, rfl, hi, rfl, rfl, hok⟩
    (repeat (first | with_reducible refine W.seq ?_ | with_reducible refine Ops.nil ?_ | with_reducible refine W.region ?_ | refine z_p (kk := ?_) | refine z_a (kk := ?_) | refine z_y (kk := ?_) | refine z_n (kk := ?_) | refine z_u (kk := ?_) | with_reducible refine W.skip ?_ | with_reducible refine W.endb ?_ | with_reducible refine W.block ?_ | refine W.exit rfl ?_ | refine z_l (kk := ?_) | refine z_f (kk := ?_) | refine z_M (kk := ?_) | refine z_m (kk := ?_) | refine z_e (kk := ?_) | refine z_E (kk := ?_) | refine z_d (kk := ?_) | refine z_I (kk := fun _ => ?_) | refine z_J (kk := fun _ => ?_) | refine z_K (kk := fun _ => ?_) | refine z_L (kk := fun _ => ?_) | refine z_T (kk := ?_) | refine z_F (kk := ?_) | refine z_r (kk := fun _ _ _ _ => ?_) | refine z_D (kk := ?_) | refine z_g (kk := ?_) | refine z_h (kk := ?_)))
    (first | refine W.condD rfl (fun hc => ?_) (fun hc => ?_) | refine W.condE rfl (fun hc => ?_) (fun hc => ?_) | refine W.condN rfl (fun hc => ?_) (fun hc => ?_) | refine W.cond rfl (fun hc => ?_) (fun hc => ?_))
    · have hil : i < xs.length := by omega
      (repeat (first | with_reducible refine W.seq ?_ | with_reducible refine Ops.nil ?_ | with_reducible refine W.region ?_ | refine z_p (kk := ?_) | refine z_a (kk := ?_) | refine z_y (kk := ?_) | refine z_n (kk := ?_) | refine z_u (kk := ?_) | with_reducible refine W.skip ?_ | with_reducible refine W.endb ?_ | with_reducible refine W.block ?_ | refine W.exit rfl ?_ | refine z_l (kk := ?_) | refine z_f (kk := ?_) | refine z_M (kk := ?_) | refine z_m (kk := ?_) | refine z_e (kk := ?_) | refine z_E (kk := ?_) | refine z_d (kk := ?_) | refine z_I (kk := fun _ => ?_) | refine z_J (kk := fun _ => ?_) | refine z_K (kk := fun _ => ?_) | refine z_L (kk := fun _ => ?_) | refine z_T (kk := ?_) | refine z_F (kk := ?_) | refine z_r (kk := fun _ _ _ _ => ?_) | refine z_D (kk := ?_) | refine z_g (kk := ?_) | refine z_h (kk := ?_)))
      refine Ops.callS rfl rfl rfl rfl rfl (within_c _ _ _ _) ?_
      have hdec : ∀ {b : Bool}, (b = true → False) → (∀ h : Asg xs c.length, False) → Value.bool b = Value.bool (decide (Asg xs c.length)) := fun {b} h1 h2 => by
        rw [decide_eq_false h2]
        cases b
        · rfl
        · exact absurd rfl h1
      cases hin : inR (xs.getD i 0) 0 (c.length - 1) with
      | true =>
        simp only [inR, Bool.and_eq_true, decide_eq_true_eq] at hin
        (repeat (first | with_reducible refine W.seq ?_ | with_reducible refine Ops.nil ?_ | with_reducible refine W.region ?_ | refine z_p (kk := ?_) | refine z_a (kk := ?_) | refine z_y (kk := ?_) | refine z_n (kk := ?_) | refine z_u (kk := ?_) | with_reducible refine W.skip ?_ | with_reducible refine W.endb ?_ | with_reducible refine W.block ?_ | refine W.exit rfl ?_ | refine z_l (kk := ?_) | refine z_f (kk := ?_) | refine z_M (kk := ?_) | refine z_m (kk := ?_) | refine z_e (kk := ?_) | refine z_E (kk := ?_) | refine z_d (kk := ?_) | refine z_I (kk := fun _ => ?_) | refine z_J (kk := fun _ => ?_) | refine z_K (kk := fun _ => ?_) | refine z_L (kk := fun _ => ?_) | refine z_T (kk := ?_) | refine z_F (kk := ?_) | refine z_r (kk := fun _ _ _ _ => ?_) | refine z_D (kk := ?_) | refine z_g (kk := ?_) | refine z_h (kk := ?_)))
        refine Ops.slH rfl rfl rfl rfl rfl rfl rfl (by omega) (by omega) ?_
        rw [Int.toNat_natCast]
        (repeat (first | with_reducible refine W.seq ?_ | with_reducible refine Ops.nil ?_ | with_reducible refine W.region ?_ | refine z_p (kk := ?_) | refine z_a (kk := ?_) | refine z_y (kk := ?_) | refine z_n (kk := ?_) | refine z_u (kk := ?_) | with_reducible refine W.skip ?_ | with_reducible refine W.endb ?_ | with_reducible refine W.block ?_ | refine W.exit rfl ?_ | refine z_l (kk := ?_) | refine z_f (kk := ?_) | refine z_M (kk := ?_) | refine z_m (kk := ?_) | refine z_e (kk := ?_) | refine z_E (kk := ?_) | refine z_d (kk := ?_) | refine z_I (kk := fun _ => ?_) | refine z_J (kk := fun _ => ?_) | refine z_K (kk := fun _ => ?_) | refine z_L (kk := fun _ => ?_) | refine z_T (kk := ?_) | refine z_F (kk := ?_) | refine z_r (kk := fun _ _ _ _ => ?_) | refine z_D (kk := ?_) | refine z_g (kk := ?_) | refine z_h (kk := ?_)))
        refine Ops.call rfl rfl rfl rfl rfl (contains_c (sl_take hs i (by omega))) (fun r w2 hR => ?_)
        obtain ⟨rfl, rfl⟩ := hR
        by_cases hm : xs.getD i 0 ∈ xs.take i
        · rw [decide_eq_true hm]
          obtain ⟨q, hq, e⟩ := (take_mem (by omega)).1 hm
          (repeat (first | with_reducible refine W.seq ?_ | with_reducible refine Ops.nil ?_ | with_reducible refine W.region ?_ | refine z_p (kk := ?_) | refine z_a (kk := ?_) | refine z_y (kk := ?_) | refine z_n (kk := ?_) | refine z_u (kk := ?_) | with_reducible refine W.skip ?_ | with_reducible refine W.endb ?_ | with_reducible refine W.block ?_ | refine W.exit rfl ?_ | refine z_l (kk := ?_) | refine z_f (kk := ?_) | refine z_M (kk := ?_) | refine z_m (kk := ?_) | refine z_e (kk := ?_) | refine z_E (kk := ?_) | refine z_d (kk := ?_) | refine z_I (kk := fun _ => ?_) | refine z_J (kk := fun _ => ?_) | refine z_K (kk := fun _ => ?_) | refine z_L (kk := fun _ => ?_) | refine z_T (kk := ?_) | refine z_F (kk := ?_) | refine z_r (kk := fun _ _ _ _ => ?_) | refine z_D (kk := ?_) | refine z_g (kk := ?_) | refine z_h (kk := ?_)))
          refine W.condT rfl (by first | rfl | assumption | (simp only [bnf] <;> omega) | (simp only [*, bnf]; done) | fail) ?_
          (repeat (first | with_reducible refine W.seq ?_ | with_reducible refine Ops.nil ?_ | with_reducible refine W.region ?_ | refine z_p (kk := ?_) | refine z_a (kk := ?_) | refine z_y (kk := ?_) | refine z_n (kk := ?_) | refine z_u (kk := ?_) | with_reducible refine W.skip ?_ | with_reducible refine W.endb ?_ | with_reducible refine W.block ?_ | refine W.exit rfl ?_ | refine z_l (kk := ?_) | refine z_f (kk := ?_) | refine z_M (kk := ?_) | refine z_m (kk := ?_) | refine z_e (kk := ?_) | refine z_E (kk := ?_) | refine z_d (kk := ?_) | refine z_I (kk := fun _ => ?_) | refine z_J (kk := fun _ => ?_) | refine z_K (kk := fun _ => ?_) | refine z_L (kk := fun _ => ?_) | refine z_T (kk := ?_) | refine z_F (kk := ?_) | refine z_r (kk := fun _ _ _ _ => ?_) | refine z_D (kk := ?_) | refine z_g (kk := ?_) | refine z_h (kk := ?_)))
          exact W.fret rfl ⟨hdec (fun h => (by cases h)) (fun h => (h.2 i hil).2 q hq e), rfl⟩
        · rw [decide_eq_false hm]
          (repeat (first | with_reducible refine W.seq ?_ | with_reducible refine Ops.nil ?_ | with_reducible refine W.region ?_ | refine z_p (kk := ?_) | refine z_a (kk := ?_) | refine z_y (kk := ?_) | refine z_n (kk := ?_) | refine z_u (kk := ?_) | with_reducible refine W.skip ?_ | with_reducible refine W.endb ?_ | with_reducible refine W.block ?_ | refine W.exit rfl ?_ | refine z_l (kk := ?_) | refine z_f (kk := ?_) | refine z_M (kk := ?_) | refine z_m (kk := ?_) | refine z_e (kk := ?_) | refine z_E (kk := ?_) | refine z_d (kk := ?_) | refine z_I (kk := fun _ => ?_) | refine z_J (kk := fun _ => ?_) | refine z_K (kk := fun _ => ?_) | refine z_L (kk := fun _ => ?_) | refine z_T (kk := ?_) | refine z_F (kk := ?_) | refine z_r (kk := fun _ _ _ _ => ?_) | refine z_D (kk := ?_) | refine z_g (kk := ?_) | refine z_h (kk := ?_)))
          refine W.condF rfl (by first | rfl | assumption | (simp only [bnf] <;> omega) | (simp only [*, bnf]; done) | fail) ?_
          (repeat (first | with_reducible refine W.seq ?_ | with_reducible refine Ops.nil ?_ | with_reducible refine W.region ?_ | refine z_p (kk := ?_) | refine z_a (kk := ?_) | refine z_y (kk := ?_) | refine z_n (kk := ?_) | refine z_u (kk := ?_) | with_reducible refine W.skip ?_ | with_reducible refine W.endb ?_ | with_reducible refine W.block ?_ | refine W.exit rfl ?_ | refine z_l (kk := ?_) | refine z_f (kk := ?_) | refine z_M (kk := ?_) | refine z_m (kk := ?_) | refine z_e (kk := ?_) | refine z_E (kk := ?_) | refine z_d (kk := ?_) | refine z_I (kk := fun _ => ?_) | refine z_J (kk := fun _ => ?_) | refine z_K (kk := fun _ => ?_) | refine z_L (kk := fun _ => ?_) | refine z_T (kk := ?_) | refine z_F (kk := ?_) | refine z_r (kk := fun _ _ _ _ => ?_) | refine z_D (kk := ?_) | refine z_g (kk := ?_) | refine z_h (kk := ?_)))
          refine W.endl ⟨_, _, ⟨⟨i + 1, rfl, by omega, rfl, rfl, fun j hj => ?_⟩, by omega⟩, (by repeat (first | exact trivial | refine And.intro rfl ?_))⟩
          by_cases e : j = i
          · rw [e]; exact ⟨by omega, fun q hq e => hm ((take_mem (by omega)).2 ⟨q, hq, e⟩)⟩
          · exact hok j (by omega)
      | false =>
        (repeat (first | with_reducible refine W.seq ?_ | with_reducible refine Ops.nil ?_ | with_reducible refine W.region ?_ | refine z_p (kk := ?_) | refine z_a (kk := ?_) | refine z_y (kk := ?_) | refine z_n (kk := ?_) | refine z_u (kk := ?_) | with_reducible refine W.skip ?_ | with_reducible refine W.endb ?_ | with_reducible refine W.block ?_ | refine W.exit rfl ?_ | refine z_l (kk := ?_) | refine z_f (kk := ?_) | refine z_M (kk := ?_) | refine z_m (kk := ?_) | refine z_e (kk := ?_) | refine z_E (kk := ?_) | refine z_d (kk := ?_) | refine z_I (kk := fun _ => ?_) | refine z_J (kk := fun _ => ?_) | refine z_K (kk := fun _ => ?_) | refine z_L (kk := fun _ => ?_) | refine z_T (kk := ?_) | refine z_F (kk := ?_) | refine z_r (kk := fun _ _ _ _ => ?_) | refine z_D (kk := ?_) | refine z_g (kk := ?_) | refine z_h (kk := ?_)))
        refine W.condT rfl (by first | rfl | assumption | (simp only [bnf] <;> omega) | (simp only [*, bnf]; done) | fail) ?_
        (repeat (first | with_reducible refine W.seq ?_ | with_reducible refine Ops.nil ?_ | with_reducible refine W.region ?_ | refine z_p (kk := ?_) | refine z_a (kk := ?_) | refine z_y (kk := ?_) | refine z_n (kk := ?_) | refine z_u (kk := ?_) | with_reducible refine W.skip ?_ | with_reducible refine W.endb ?_ | with_reducible refine W.block ?_ | refine W.exit rfl ?_ | refine z_l (kk := ?_) | refine z_f (kk := ?_) | refine z_M (kk := ?_) | refine z_m (kk := ?_) | refine z_e (kk := ?_) | refine z_E (kk := ?_) | refine z_d (kk := ?_) | refine z_I (kk := fun _ => ?_) | refine z_J (kk := fun _ => ?_) | refine z_K (kk := fun _ => ?_) | refine z_L (kk := fun _ => ?_) | refine z_T (kk := ?_) | refine z_F (kk := ?_) | refine z_r (kk := fun _ _ _ _ => ?_) | refine z_D (kk := ?_) | refine z_g (kk := ?_) | refine z_h (kk := ?_)))
        refine W.fret rfl ⟨hdec (fun h => (by cases h)) (fun h => ?_), rfl⟩
        have := (h.2 i hil).1
        rw [← Bool.not_eq_true] at hin
        refine hin ?_
        simp only [inR, Bool.and_eq_true, decide_eq_true_eq]
        omega
    · have hil : i = xs.length := by omega
      subst hil
      (repeat (first | with_reducible refine W.seq ?_ | with_reducible refine Ops.nil ?_ | with_reducible refine W.region ?_ | refine z_p (kk := ?_) | refine z_a (kk := ?_) | refine z_y (kk := ?_) | refine z_n (kk := ?_) | refine z_u (kk := ?_) | with_reducible refine W.skip ?_ | with_reducible refine W.endb ?_ | with_reducible refine W.block ?_ | refine W.exit rfl ?_ | refine z_l (kk := ?_) | refine z_f (kk := ?_) | refine z_M (kk := ?_) | refine z_m (kk := ?_) | refine z_e (kk := ?_) | refine z_E (kk := ?_) | refine z_d (kk := ?_) | refine z_I (kk := fun _ => ?_) | refine z_J (kk := fun _ => ?_) | refine z_K (kk := fun _ => ?_) | refine z_L (kk := fun _ => ?_) | refine z_T (kk := ?_) | refine z_F (kk := ?_) | refine z_r (kk := fun _ _ _ _ => ?_) | refine z_D (kk := ?_) | refine z_g (kk := ?_) | refine z_h (kk := ?_)))
      exact W.fret rfl ⟨by rw [decide_eq_true ⟨hlen, hok⟩]; rfl, rfl⟩
  · have hlen' : ¬ ((xs.length : Int) = c.length) := by omega
    (repeat (first | with_reducible refine W.seq ?_ | with_reducible refine Ops.nil ?_ | with_reducible refine W.region ?_ | refine z_p (kk := ?_) | refine z_a (kk := ?_) | refine z_y (kk := ?_) | refine z_n (kk := ?_) | refine z_u (kk := ?_) | with_reducible refine W.skip ?_ | with_reducible refine W.endb ?_ | with_reducible refine W.block ?_ | refine W.exit rfl ?_ | refine z_l (kk := ?_) | refine z_f (kk := ?_) | refine z_M (kk := ?_) | refine z_m (kk := ?_) | refine z_e (kk := ?_) | refine z_E (kk := ?_) | refine z_d (kk := ?_) | refine z_I (kk := fun _ => ?_) | refine z_J (kk := fun _ => ?_) | refine z_K (kk := fun _ => ?_) | refine z_L (kk := fun _ => ?_) | refine z_T (kk := ?_) | refine z_F (kk := ?_) | refine z_r (kk := fun _ _ _ _ => ?_) | refine z_D (kk := ?_) | refine z_g (kk := ?_) | refine z_h (kk := ?_)))
    refine W.condT rfl (by first | rfl | assumption | (simp only [bnf] <;> omega) | (simp only [*, bnf]; done) | fail) ?_
    (repeat (first | with_reducible refine W.seq ?_ | with_reducible refine Ops.nil ?_ | with_reducible refine W.region ?_ | refine z_p (kk := ?_) | refine z_a (kk := ?_) | refine z_y (kk := ?_) | refine z_n (kk := ?_) | refine z_u (kk := ?_) | with_reducible refine W.skip ?_ | with_reducible refine W.endb ?_ | with_reducible refine W.block ?_ | refine W.exit rfl ?_ | refine z_l (kk := ?_) | refine z_f (kk := ?_) | refine z_M (kk := ?_) | refine z_m (kk := ?_) | refine z_e (kk := ?_) | refine z_E (kk := ?_) | refine z_d (kk := ?_) | refine z_I (kk := fun _ => ?_) | refine z_J (kk := fun _ => ?_) | refine z_K (kk := fun _ => ?_) | refine z_L (kk := fun _ => ?_) | refine z_T (kk := ?_) | refine z_F (kk := ?_) | refine z_r (kk := fun _ _ _ _ => ?_) | refine z_D (kk := ?_) | refine z_g (kk := ?_) | refine z_h (kk := ?_)))
    exact W.fret rfl ⟨by rw [decide_eq_false (fun h => hlen h.1)]; rfl, rfl⟩
/-- A total, as far as button i. -/
def totP (c : List (List Int)) (a : List Int) : Nat → Int
  | 0 => 0
  | i + 1 => totP c a i + (c.getD i []).getD (a.getD i 0).toNat 0
theorem totP_bd {c : List (List Int)} {a : List Int} (hC : Cst c) (ha : ∀ i, i < a.length → 0 ≤ a.getD i 0 ∧ a.getD i 0 < c.length) (hl : a.length ≤ c.length) : ∀ i, i ≤ a.length → -(1000 * (i : Int)) ≤ totP c a i ∧ totP c a i ≤ 1000 * (i : Int)
  | 0, _ => by simp [totP]
  | i + 1, h => by
    have h1 := totP_bd hC ha hl i (by omega)
    have h2 := ha i (by omega)
    have h3 := hC.bd i (a.getD i 0).toNat (by omega) (by omega)
    simp only [totP]
    omega
theorem total_c {w : World} {cv v : Value} {c : List (List Int)} {xs : List Int} (hM : RowsM w cv c) (hC : Cst c) (h : SlI w v xs) (ha : ∀ i, i < xs.length → 0 ≤ xs.getD i 0 ∧ xs.getD i 0 < c.length) (hlen : xs.length ≤ c.length) : Calls Try.prog 63 #[cv, v] w (Ret fun r w' => r = .int .i64 (totP c xs xs.length) ∧ w' = w) := by
  have hl := Sl.len h
  have hn7 := hC.n7
  obtain ⟨Ac, cc, rfl⟩ := hM.sl
  obtain ⟨A, k, rfl⟩ := Sl.shape h
  refine calls_W (vs := [_, _]) Try.func63 rfl (by kernel_rfl) rfl ?_
  (repeat (first | with_reducible refine W.seq ?_ | with_reducible refine Ops.nil ?_ | with_reducible refine W.region ?_ | refine z_p (kk := ?_) | refine z_a (kk := ?_) | refine z_y (kk := ?_) | refine z_n (kk := ?_) | refine z_u (kk := ?_) | with_reducible refine W.skip ?_ | with_reducible refine W.endb ?_ | with_reducible refine W.block ?_ | refine W.exit rfl ?_ | refine z_l (kk := ?_) | refine z_f (kk := ?_) | refine z_M (kk := ?_) | refine z_m (kk := ?_) | refine z_e (kk := ?_) | refine z_E (kk := ?_) | refine z_d (kk := ?_) | refine z_I (kk := fun _ => ?_) | refine z_J (kk := fun _ => ?_) | refine z_K (kk := fun _ => ?_) | refine z_L (kk := fun _ => ?_) | refine z_T (kk := ?_) | refine z_F (kk := ?_) | refine z_r (kk := fun _ _ _ _ => ?_) | refine z_D (kk := ?_) | refine z_g (kk := ?_) | refine z_h (kk := ?_)))
  refine W.loop (fun m ρ w1 => ∃ (i : Nat), m = xs.length - i ∧ i ≤ xs.length ∧ ρ = [(0, .slice Ac c.length cc), (5, .int .i64 (totP c xs i)), (8, .slice A xs.length k), (9, .int .i64 xs.length), (10, .int .i64 i)] ∧ w1 = w)
    ⟨_, _, ⟨0, rfl, Nat.zero_le _, rfl, rfl⟩, (by repeat (first | exact trivial | refine And.intro rfl ?_))⟩ ?_
  rintro m ρ w1 ⟨i, rfl, hi, rfl, rfl⟩
  have hbd := totP_bd hC ha hlen i hi
  (repeat (first | with_reducible refine W.seq ?_ | with_reducible refine Ops.nil ?_ | with_reducible refine W.region ?_ | refine z_p (kk := ?_) | refine z_a (kk := ?_) | refine z_y (kk := ?_) | refine z_n (kk := ?_) | refine z_u (kk := ?_) | with_reducible refine W.skip ?_ | with_reducible refine W.endb ?_ | with_reducible refine W.block ?_ | refine W.exit rfl ?_ | refine z_l (kk := ?_) | refine z_f (kk := ?_) | refine z_M (kk := ?_) | refine z_m (kk := ?_) | refine z_e (kk := ?_) | refine z_E (kk := ?_) | refine z_d (kk := ?_) | refine z_I (kk := fun _ => ?_) | refine z_J (kk := fun _ => ?_) | refine z_K (kk := fun _ => ?_) | refine z_L (kk := fun _ => ?_) | refine z_T (kk := ?_) | refine z_F (kk := ?_) | refine z_r (kk := fun _ _ _ _ => ?_) | refine z_D (kk := ?_) | refine z_g (kk := ?_) | refine z_h (kk := ?_)))
  (first | refine W.condD rfl (fun hc => ?_) (fun hc => ?_) | refine W.condE rfl (fun hc => ?_) (fun hc => ?_) | refine W.condN rfl (fun hc => ?_) (fun hc => ?_) | refine W.cond rfl (fun hc => ?_) (fun hc => ?_))
  · have hil : i < xs.length := by omega
    have hai := ha i hil
    have hcl := hC.len i (by omega)
    have hcb := hC.bd i (xs.getD i 0).toNat (by omega) (by omega)
    have hrow : row c (i : Int) = c.getD i [] := by simp [row]
    rw [← hrow] at hcl hcb
    (repeat (first | with_reducible refine W.seq ?_ | with_reducible refine Ops.nil ?_ | with_reducible refine W.region ?_ | refine z_p (kk := ?_) | refine z_a (kk := ?_) | refine z_y (kk := ?_) | refine z_n (kk := ?_) | refine z_u (kk := ?_) | with_reducible refine W.skip ?_ | with_reducible refine W.endb ?_ | with_reducible refine W.block ?_ | refine W.exit rfl ?_ | refine z_l (kk := ?_) | refine z_f (kk := ?_) | refine z_M (kk := ?_) | refine z_m (kk := ?_) | refine z_e (kk := ?_) | refine z_E (kk := ?_) | refine z_d (kk := ?_) | refine z_I (kk := fun _ => ?_) | refine z_J (kk := fun _ => ?_) | refine z_K (kk := fun _ => ?_) | refine z_L (kk := fun _ => ?_) | refine z_T (kk := ?_) | refine z_F (kk := ?_) | refine z_r (kk := fun _ _ _ _ => ?_) | refine z_D (kk := ?_) | refine z_g (kk := ?_) | refine z_h (kk := ?_)))
    refine W.endl ⟨_, _, ⟨⟨i + 1, rfl, by omega, rfl, rfl⟩, by omega⟩, ?_⟩
    simp only [totP, ← hrow]
    exact (by repeat (first | exact trivial | refine And.intro rfl ?_))
  · have hil : i = xs.length := by omega
    subst hil
    (repeat (first | with_reducible refine W.seq ?_ | with_reducible refine Ops.nil ?_ | with_reducible refine W.region ?_ | refine z_p (kk := ?_) | refine z_a (kk := ?_) | refine z_y (kk := ?_) | refine z_n (kk := ?_) | refine z_u (kk := ?_) | with_reducible refine W.skip ?_ | with_reducible refine W.endb ?_ | with_reducible refine W.block ?_ | refine W.exit rfl ?_ | refine z_l (kk := ?_) | refine z_f (kk := ?_) | refine z_M (kk := ?_) | refine z_m (kk := ?_) | refine z_e (kk := ?_) | refine z_E (kk := ?_) | refine z_d (kk := ?_) | refine z_I (kk := fun _ => ?_) | refine z_J (kk := fun _ => ?_) | refine z_K (kk := fun _ => ?_) | refine z_L (kk := fun _ => ?_) | refine z_T (kk := ?_) | refine z_F (kk := ?_) | refine z_r (kk := fun _ _ _ _ => ?_) | refine z_D (kk := ?_) | refine z_g (kk := ?_) | refine z_h (kk := ?_)))
    exact W.fret rfl ⟨rfl, rfl⟩
set_option maxHeartbeats 1000000 in
theorem refTotal_c {w : World} {cv v : Value} {c : List (List Int)} {xs : List Int} (hM : RowsM w cv c) (hC : Cst c) (h : SlI w v xs) (ha : ∀ i, i < xs.length → 0 ≤ xs.getD i 0 ∧ xs.getD i 0 < c.length) (hlen : xs.length ≤ c.length) : Calls Try.prog 41 #[cv, v] w (Ret fun r w' => r = .int .i64 (totP c xs xs.length) ∧ Below w.heap.size w w') := by
  have hl := Sl.len h
  have hn7 := hC.n7
  obtain ⟨Ac, cc, rfl⟩ := hM.sl
  obtain ⟨A, k, rfl⟩ := Sl.shape h
  refine calls_W (vs := [_, _]) Try.func41 rfl (by kernel_rfl) rfl ?_
  (repeat (first | with_reducible refine W.seq ?_ | with_reducible refine Ops.nil ?_ | with_reducible refine W.region ?_ | refine z_p (kk := ?_) | refine z_a (kk := ?_) | refine z_y (kk := ?_) | refine z_n (kk := ?_) | refine z_u (kk := ?_) | with_reducible refine W.skip ?_ | with_reducible refine W.endb ?_ | with_reducible refine W.block ?_ | refine W.exit rfl ?_ | refine z_l (kk := ?_) | refine z_f (kk := ?_) | refine z_M (kk := ?_) | refine z_m (kk := ?_) | refine z_e (kk := ?_) | refine z_E (kk := ?_) | refine z_d (kk := ?_) | refine z_I (kk := fun _ => ?_) | refine z_J (kk := fun _ => ?_) | refine z_K (kk := fun _ => ?_) | refine z_L (kk := fun _ => ?_) | refine z_T (kk := ?_) | refine z_F (kk := ?_) | refine z_r (kk := fun _ _ _ _ => ?_) | refine z_D (kk := ?_) | refine z_g (kk := ?_) | refine z_h (kk := ?_)))
  refine W.loop (fun m ρ w1 => ∃ (i : Nat), m = xs.length - i ∧ i ≤ xs.length ∧ ρ = [(0, .slice Ac c.length cc), (1, .slice A xs.length k), (5, .int .i64 (totP c xs i)), (6, .int .i64 i)] ∧ Below w.heap.size w w1)
    ⟨_, _, ⟨0, rfl, Nat.zero_le _, rfl, Below.refl _ _⟩, (by repeat (first | exact trivial | refine And.intro rfl ?_))⟩ ?_
  rintro m ρ w1 ⟨i, rfl, hi, rfl, hb1⟩
  have hbd := totP_bd hC ha hlen i hi
  (repeat (first | with_reducible refine W.seq ?_ | with_reducible refine Ops.nil ?_ | with_reducible refine W.region ?_ | refine z_p (kk := ?_) | refine z_a (kk := ?_) | refine z_y (kk := ?_) | refine z_n (kk := ?_) | refine z_u (kk := ?_) | with_reducible refine W.skip ?_ | with_reducible refine W.endb ?_ | with_reducible refine W.block ?_ | refine W.exit rfl ?_ | refine z_l (kk := ?_) | refine z_f (kk := ?_) | refine z_M (kk := ?_) | refine z_m (kk := ?_) | refine z_e (kk := ?_) | refine z_E (kk := ?_) | refine z_d (kk := ?_) | refine z_I (kk := fun _ => ?_) | refine z_J (kk := fun _ => ?_) | refine z_K (kk := fun _ => ?_) | refine z_L (kk := fun _ => ?_) | refine z_T (kk := ?_) | refine z_F (kk := ?_) | refine z_r (kk := fun _ _ _ _ => ?_) | refine z_D (kk := ?_) | refine z_g (kk := ?_) | refine z_h (kk := ?_)))
  (first | refine W.condD rfl (fun hc => ?_) (fun hc => ?_) | refine W.condE rfl (fun hc => ?_) (fun hc => ?_) | refine W.condN rfl (fun hc => ?_) (fun hc => ?_) | refine W.cond rfl (fun hc => ?_) (fun hc => ?_))
  · have hil : i < xs.length := by omega
    have hai := ha i hil
    have hcl := hC.len i (by omega)
    have hcb := hC.bd i (xs.getD i 0).toNat (by omega) (by omega)
    have hrow : row c (i : Int) = c.getD i [] := by simp [row]
    rw [← hrow] at hcl hcb
    (repeat (first | with_reducible refine W.seq ?_ | with_reducible refine Ops.nil ?_ | with_reducible refine W.region ?_ | refine z_p (kk := ?_) | refine z_a (kk := ?_) | refine z_y (kk := ?_) | refine z_n (kk := ?_) | refine z_u (kk := ?_) | with_reducible refine W.skip ?_ | with_reducible refine W.endb ?_ | with_reducible refine W.block ?_ | refine W.exit rfl ?_ | refine z_l (kk := ?_) | refine z_f (kk := ?_) | refine z_M (kk := ?_) | refine z_m (kk := ?_) | refine z_e (kk := ?_) | refine z_E (kk := ?_) | refine z_d (kk := ?_) | refine z_I (kk := fun _ => ?_) | refine z_J (kk := fun _ => ?_) | refine z_K (kk := fun _ => ?_) | refine z_L (kk := fun _ => ?_) | refine z_T (kk := ?_) | refine z_F (kk := ?_) | refine z_r (kk := fun _ _ _ _ => ?_) | refine z_D (kk := ?_) | refine z_g (kk := ?_) | refine z_h (kk := ?_)))
    refine W.ordA 99 [(0, 1), (1, 1), (2, 1), (3, 1), (4, 2), (5, 1), (6, 1), (7, 1), (8, 2), (9, 1), (10, 2), (11, 1), (12, 1)] rfl (by kernel_rfl) rfl (by kernel_rfl) (fun _ _ _ h => h) ?_
    (repeat (first | refine x_p (kk := ?_) | refine x_n (kk := ?_) | refine x_a (kk := ?_) | refine x_l (kk := ?_) | refine x_M (kk := ?_) | refine x_m (kk := ?_) | refine x_e (kk := ?_) | refine x_E (kk := ?_) | refine x_T (kk := ?_) | refine x_F (kk := ?_) | refine x_I (kk := fun _ => ?_) | refine x_J (kk := fun _ => ?_) | refine x_K (kk := fun _ => ?_) | refine x_L (kk := fun _ => ?_) | refine x_r (kk := fun _ _ _ _ => ?_)))
    refine OrdA.nil (fun w2 hb2 => ?_)
    have hb02 := Below.via hb1 hb2
    (repeat (first | with_reducible refine W.seq ?_ | with_reducible refine Ops.nil ?_ | with_reducible refine W.region ?_ | refine z_p (kk := ?_) | refine z_a (kk := ?_) | refine z_y (kk := ?_) | refine z_n (kk := ?_) | refine z_u (kk := ?_) | with_reducible refine W.skip ?_ | with_reducible refine W.endb ?_ | with_reducible refine W.block ?_ | refine W.exit rfl ?_ | refine z_l (kk := ?_) | refine z_f (kk := ?_) | refine z_M (kk := ?_) | refine z_m (kk := ?_) | refine z_e (kk := ?_) | refine z_E (kk := ?_) | refine z_d (kk := ?_) | refine z_I (kk := fun _ => ?_) | refine z_J (kk := fun _ => ?_) | refine z_K (kk := fun _ => ?_) | refine z_L (kk := fun _ => ?_) | refine z_T (kk := ?_) | refine z_F (kk := ?_) | refine z_r (kk := fun _ _ _ _ => ?_) | refine z_D (kk := ?_) | refine z_g (kk := ?_) | refine z_h (kk := ?_)))
    refine W.endl ⟨_, _, ⟨⟨i + 1, rfl, by omega, rfl, hb02⟩, by omega⟩, ?_⟩
    simp only [totP, ← hrow]
    exact (by repeat (first | exact trivial | refine And.intro rfl ?_))
  · have hil : i = xs.length := by omega
    subst hil
    (repeat (first | with_reducible refine W.seq ?_ | with_reducible refine Ops.nil ?_ | with_reducible refine W.region ?_ | refine z_p (kk := ?_) | refine z_a (kk := ?_) | refine z_y (kk := ?_) | refine z_n (kk := ?_) | refine z_u (kk := ?_) | with_reducible refine W.skip ?_ | with_reducible refine W.endb ?_ | with_reducible refine W.block ?_ | refine W.exit rfl ?_ | refine z_l (kk := ?_) | refine z_f (kk := ?_) | refine z_M (kk := ?_) | refine z_m (kk := ?_) | refine z_e (kk := ?_) | refine z_E (kk := ?_) | refine z_d (kk := ?_) | refine z_I (kk := fun _ => ?_) | refine z_J (kk := fun _ => ?_) | refine z_K (kk := fun _ => ?_) | refine z_L (kk := fun _ => ?_) | refine z_T (kk := ?_) | refine z_F (kk := ?_) | refine z_r (kk := fun _ _ _ _ => ?_) | refine z_D (kk := ?_) | refine z_g (kk := ?_) | refine z_h (kk := ?_)))
    exact W.fret rfl ⟨rfl, hb1⟩
set_option maxHeartbeats 1000000 in
theorem refAsg_c {w : World} {v : Value} {xs : List Int} {n : Nat} (h : SlI w v xs) (hn : n ≤ 1000) : Calls Try.prog 29 #[v, .int .i64 n] w (Ret fun r w' => r = .bool (decide (Asg xs n)) ∧ Below w.heap.size w w') := by
  have hl := Sl.len h
  obtain ⟨A, k, rfl⟩ := Sl.shape h
  refine calls_W (vs := [_, _]) Try.func29 rfl (by kernel_rfl) rfl ?_
  (repeat (first | with_reducible refine W.seq ?_ | with_reducible refine Ops.nil ?_ | with_reducible refine W.region ?_ | refine z_p (kk := ?_) | refine z_a (kk := ?_) | refine z_y (kk := ?_) | refine z_n (kk := ?_) | refine z_u (kk := ?_) | with_reducible refine W.skip ?_ | with_reducible refine W.endb ?_ | with_reducible refine W.block ?_ | refine W.exit rfl ?_ | refine z_l (kk := ?_) | refine z_f (kk := ?_) | refine z_M (kk := ?_) | refine z_m (kk := ?_) | refine z_e (kk := ?_) | refine z_E (kk := ?_) | refine z_d (kk := ?_) | refine z_I (kk := fun _ => ?_) | refine z_J (kk := fun _ => ?_) | refine z_K (kk := fun _ => ?_) | refine z_L (kk := fun _ => ?_) | refine z_T (kk := ?_) | refine z_F (kk := ?_) | refine z_r (kk := fun _ _ _ _ => ?_) | refine z_D (kk := ?_) | refine z_g (kk := ?_) | refine z_h (kk := ?_)))
  have hdec : (∀ h : Asg xs n, False) → Value.bool false = Value.bool (decide (Asg xs n)) := fun h2 => by rw [decide_eq_false h2]
  refine W.loop (fun m ρ w1 => ∃ (i : Nat), m = xs.length - i ∧ i ≤ xs.length ∧ ρ = [(0, .slice A xs.length k), (1, .int .i64 n), (5, .int .i64 i)] ∧ Below w.heap.size w w1 ∧ ∀ j, j < i → (0 ≤ xs.getD j 0 ∧ xs.getD j 0 < n) ∧ ∀ q, q < j → xs.getD q 0 ≠ xs.getD j 0)
    ⟨_, _, ⟨0, rfl, Nat.zero_le _, rfl, Below.refl _ _, fun j hj => by omega⟩, (by repeat (first | exact trivial | refine And.intro rfl ?_))⟩ ?_
  rintro m ρ w1 ⟨i, rfl, hi, rfl, hb1, hok⟩
  (repeat (first | with_reducible refine W.seq ?_ | with_reducible refine Ops.nil ?_ | with_reducible refine W.region ?_ | refine z_p (kk := ?_) | refine z_a (kk := ?_) | refine z_y (kk := ?_) | refine z_n (kk := ?_) | refine z_u (kk := ?_) | with_reducible refine W.skip ?_ | with_reducible refine W.endb ?_ | with_reducible refine W.block ?_ | refine W.exit rfl ?_ | refine z_l (kk := ?_) | refine z_f (kk := ?_) | refine z_M (kk := ?_) | refine z_m (kk := ?_) | refine z_e (kk := ?_) | refine z_E (kk := ?_) | refine z_d (kk := ?_) | refine z_I (kk := fun _ => ?_) | refine z_J (kk := fun _ => ?_) | refine z_K (kk := fun _ => ?_) | refine z_L (kk := fun _ => ?_) | refine z_T (kk := ?_) | refine z_F (kk := ?_) | refine z_r (kk := fun _ _ _ _ => ?_) | refine z_D (kk := ?_) | refine z_g (kk := ?_) | refine z_h (kk := ?_)))
  (first | refine W.condD rfl (fun hc => ?_) (fun hc => ?_) | refine W.condE rfl (fun hc => ?_) (fun hc => ?_) | refine W.condN rfl (fun hc => ?_) (fun hc => ?_) | refine W.cond rfl (fun hc => ?_) (fun hc => ?_))
  · have hil : i < xs.length := by omega
    by_cases h0 : xs.getD i 0 < 0
    · (repeat (first | with_reducible refine W.seq ?_ | with_reducible refine Ops.nil ?_ | with_reducible refine W.region ?_ | refine z_p (kk := ?_) | refine z_a (kk := ?_) | refine z_y (kk := ?_) | refine z_n (kk := ?_) | refine z_u (kk := ?_) | with_reducible refine W.skip ?_ | with_reducible refine W.endb ?_ | with_reducible refine W.block ?_ | refine W.exit rfl ?_ | refine z_l (kk := ?_) | refine z_f (kk := ?_) | refine z_M (kk := ?_) | refine z_m (kk := ?_) | refine z_e (kk := ?_) | refine z_E (kk := ?_) | refine z_d (kk := ?_) | refine z_I (kk := fun _ => ?_) | refine z_J (kk := fun _ => ?_) | refine z_K (kk := fun _ => ?_) | refine z_L (kk := fun _ => ?_) | refine z_T (kk := ?_) | refine z_F (kk := ?_) | refine z_r (kk := fun _ _ _ _ => ?_) | refine z_D (kk := ?_) | refine z_g (kk := ?_) | refine z_h (kk := ?_)))
      refine W.condT rfl (by first | rfl | assumption | (simp only [bnf] <;> omega) | (simp only [*, bnf]; done) | fail) ?_
      (repeat (first | with_reducible refine W.seq ?_ | with_reducible refine Ops.nil ?_ | with_reducible refine W.region ?_ | refine z_p (kk := ?_) | refine z_a (kk := ?_) | refine z_y (kk := ?_) | refine z_n (kk := ?_) | refine z_u (kk := ?_) | with_reducible refine W.skip ?_ | with_reducible refine W.endb ?_ | with_reducible refine W.block ?_ | refine W.exit rfl ?_ | refine z_l (kk := ?_) | refine z_f (kk := ?_) | refine z_M (kk := ?_) | refine z_m (kk := ?_) | refine z_e (kk := ?_) | refine z_E (kk := ?_) | refine z_d (kk := ?_) | refine z_I (kk := fun _ => ?_) | refine z_J (kk := fun _ => ?_) | refine z_K (kk := fun _ => ?_) | refine z_L (kk := fun _ => ?_) | refine z_T (kk := ?_) | refine z_F (kk := ?_) | refine z_r (kk := fun _ _ _ _ => ?_) | refine z_D (kk := ?_) | refine z_g (kk := ?_) | refine z_h (kk := ?_)))
      exact W.fret rfl ⟨hdec (fun h => by have := (h.2 i hil).1; omega), hb1⟩
    · by_cases h2 : xs.getD i 0 ≥ n
      · (repeat (first | with_reducible refine W.seq ?_ | with_reducible refine Ops.nil ?_ | with_reducible refine W.region ?_ | refine z_p (kk := ?_) | refine z_a (kk := ?_) | refine z_y (kk := ?_) | refine z_n (kk := ?_) | refine z_u (kk := ?_) | with_reducible refine W.skip ?_ | with_reducible refine W.endb ?_ | with_reducible refine W.block ?_ | refine W.exit rfl ?_ | refine z_l (kk := ?_) | refine z_f (kk := ?_) | refine z_M (kk := ?_) | refine z_m (kk := ?_) | refine z_e (kk := ?_) | refine z_E (kk := ?_) | refine z_d (kk := ?_) | refine z_I (kk := fun _ => ?_) | refine z_J (kk := fun _ => ?_) | refine z_K (kk := fun _ => ?_) | refine z_L (kk := fun _ => ?_) | refine z_T (kk := ?_) | refine z_F (kk := ?_) | refine z_r (kk := fun _ _ _ _ => ?_) | refine z_D (kk := ?_) | refine z_g (kk := ?_) | refine z_h (kk := ?_)))
        refine W.condT rfl (by first | rfl | assumption | (simp only [bnf] <;> omega) | (simp only [*, bnf]; done) | fail) ?_
        (repeat (first | with_reducible refine W.seq ?_ | with_reducible refine Ops.nil ?_ | with_reducible refine W.region ?_ | refine z_p (kk := ?_) | refine z_a (kk := ?_) | refine z_y (kk := ?_) | refine z_n (kk := ?_) | refine z_u (kk := ?_) | with_reducible refine W.skip ?_ | with_reducible refine W.endb ?_ | with_reducible refine W.block ?_ | refine W.exit rfl ?_ | refine z_l (kk := ?_) | refine z_f (kk := ?_) | refine z_M (kk := ?_) | refine z_m (kk := ?_) | refine z_e (kk := ?_) | refine z_E (kk := ?_) | refine z_d (kk := ?_) | refine z_I (kk := fun _ => ?_) | refine z_J (kk := fun _ => ?_) | refine z_K (kk := fun _ => ?_) | refine z_L (kk := fun _ => ?_) | refine z_T (kk := ?_) | refine z_F (kk := ?_) | refine z_r (kk := fun _ _ _ _ => ?_) | refine z_D (kk := ?_) | refine z_g (kk := ?_) | refine z_h (kk := ?_)))
        exact W.fret rfl ⟨hdec (fun h => by have := (h.2 i hil).1; omega), hb1⟩
      · (repeat (first | with_reducible refine W.seq ?_ | with_reducible refine Ops.nil ?_ | with_reducible refine W.region ?_ | refine z_p (kk := ?_) | refine z_a (kk := ?_) | refine z_y (kk := ?_) | refine z_n (kk := ?_) | refine z_u (kk := ?_) | with_reducible refine W.skip ?_ | with_reducible refine W.endb ?_ | with_reducible refine W.block ?_ | refine W.exit rfl ?_ | refine z_l (kk := ?_) | refine z_f (kk := ?_) | refine z_M (kk := ?_) | refine z_m (kk := ?_) | refine z_e (kk := ?_) | refine z_E (kk := ?_) | refine z_d (kk := ?_) | refine z_I (kk := fun _ => ?_) | refine z_J (kk := fun _ => ?_) | refine z_K (kk := fun _ => ?_) | refine z_L (kk := fun _ => ?_) | refine z_T (kk := ?_) | refine z_F (kk := ?_) | refine z_r (kk := fun _ _ _ _ => ?_) | refine z_D (kk := ?_) | refine z_g (kk := ?_) | refine z_h (kk := ?_)))
        refine W.condF rfl (by first | rfl | assumption | (simp only [bnf] <;> omega) | (simp only [*, bnf]; done) | fail) ?_
        (repeat (first | with_reducible refine W.seq ?_ | with_reducible refine Ops.nil ?_ | with_reducible refine W.region ?_ | refine z_p (kk := ?_) | refine z_a (kk := ?_) | refine z_y (kk := ?_) | refine z_n (kk := ?_) | refine z_u (kk := ?_) | with_reducible refine W.skip ?_ | with_reducible refine W.endb ?_ | with_reducible refine W.block ?_ | refine W.exit rfl ?_ | refine z_l (kk := ?_) | refine z_f (kk := ?_) | refine z_M (kk := ?_) | refine z_m (kk := ?_) | refine z_e (kk := ?_) | refine z_E (kk := ?_) | refine z_d (kk := ?_) | refine z_I (kk := fun _ => ?_) | refine z_J (kk := fun _ => ?_) | refine z_K (kk := fun _ => ?_) | refine z_L (kk := fun _ => ?_) | refine z_T (kk := ?_) | refine z_F (kk := ?_) | refine z_r (kk := fun _ _ _ _ => ?_) | refine z_D (kk := ?_) | refine z_g (kk := ?_) | refine z_h (kk := ?_)))
        refine W.loop (fun m ρ w2 => ∃ (q : Nat), m = i - q ∧ q ≤ i ∧ ρ = [(0, .slice A xs.length k), (1, .int .i64 n), (5, .int .i64 i), (6, .int .i64 q)] ∧ Below w.heap.size w w2 ∧ ∀ p, p < q → xs.getD p 0 ≠ xs.getD i 0)
          ⟨_, _, ⟨0, rfl, Nat.zero_le _, rfl, hb1, fun p hp => by omega⟩, (by repeat (first | exact trivial | refine And.intro rfl ?_))⟩ ?_
        rintro m ρ w2 ⟨q, rfl, hq, rfl, hb2, hne⟩
        (repeat (first | with_reducible refine W.seq ?_ | with_reducible refine Ops.nil ?_ | with_reducible refine W.region ?_ | refine z_p (kk := ?_) | refine z_a (kk := ?_) | refine z_y (kk := ?_) | refine z_n (kk := ?_) | refine z_u (kk := ?_) | with_reducible refine W.skip ?_ | with_reducible refine W.endb ?_ | with_reducible refine W.block ?_ | refine W.exit rfl ?_ | refine z_l (kk := ?_) | refine z_f (kk := ?_) | refine z_M (kk := ?_) | refine z_m (kk := ?_) | refine z_e (kk := ?_) | refine z_E (kk := ?_) | refine z_d (kk := ?_) | refine z_I (kk := fun _ => ?_) | refine z_J (kk := fun _ => ?_) | refine z_K (kk := fun _ => ?_) | refine z_L (kk := fun _ => ?_) | refine z_T (kk := ?_) | refine z_F (kk := ?_) | refine z_r (kk := fun _ _ _ _ => ?_) | refine z_D (kk := ?_) | refine z_g (kk := ?_) | refine z_h (kk := ?_)))
        (first | refine W.condD rfl (fun hc => ?_) (fun hc => ?_) | refine W.condE rfl (fun hc => ?_) (fun hc => ?_) | refine W.condN rfl (fun hc => ?_) (fun hc => ?_) | refine W.cond rfl (fun hc => ?_) (fun hc => ?_))
        · have hql : q < i := by omega
          (repeat (first | with_reducible refine W.seq ?_ | with_reducible refine Ops.nil ?_ | with_reducible refine W.region ?_ | refine z_p (kk := ?_) | refine z_a (kk := ?_) | refine z_y (kk := ?_) | refine z_n (kk := ?_) | refine z_u (kk := ?_) | with_reducible refine W.skip ?_ | with_reducible refine W.endb ?_ | with_reducible refine W.block ?_ | refine W.exit rfl ?_ | refine z_l (kk := ?_) | refine z_f (kk := ?_) | refine z_M (kk := ?_) | refine z_m (kk := ?_) | refine z_e (kk := ?_) | refine z_E (kk := ?_) | refine z_d (kk := ?_) | refine z_I (kk := fun _ => ?_) | refine z_J (kk := fun _ => ?_) | refine z_K (kk := fun _ => ?_) | refine z_L (kk := fun _ => ?_) | refine z_T (kk := ?_) | refine z_F (kk := ?_) | refine z_r (kk := fun _ _ _ _ => ?_) | refine z_D (kk := ?_) | refine z_g (kk := ?_) | refine z_h (kk := ?_)))
          refine W.ordA 99 [(0, 1), (1, 1), (2, 1), (3, 2), (4, 1), (5, 1), (6, 1), (7, 2), (8, 1)] rfl (by kernel_rfl) rfl (by kernel_rfl) (fun _ _ _ h => h) ?_
          (repeat (first | refine x_p (kk := ?_) | refine x_n (kk := ?_) | refine x_a (kk := ?_) | refine x_l (kk := ?_) | refine x_M (kk := ?_) | refine x_m (kk := ?_) | refine x_e (kk := ?_) | refine x_E (kk := ?_) | refine x_T (kk := ?_) | refine x_F (kk := ?_) | refine x_I (kk := fun _ => ?_) | refine x_J (kk := fun _ => ?_) | refine x_K (kk := fun _ => ?_) | refine x_L (kk := fun _ => ?_) | refine x_r (kk := fun _ _ _ _ => ?_)))
          refine OrdA.nil (fun w3 hb3 => ?_)
          have hb03 := Below.via hb2 hb3
          by_cases e : xs.getD q 0 = xs.getD i 0
          · (repeat (first | with_reducible refine W.seq ?_ | with_reducible refine Ops.nil ?_ | with_reducible refine W.region ?_ | refine z_p (kk := ?_) | refine z_a (kk := ?_) | refine z_y (kk := ?_) | refine z_n (kk := ?_) | refine z_u (kk := ?_) | with_reducible refine W.skip ?_ | with_reducible refine W.endb ?_ | with_reducible refine W.block ?_ | refine W.exit rfl ?_ | refine z_l (kk := ?_) | refine z_f (kk := ?_) | refine z_M (kk := ?_) | refine z_m (kk := ?_) | refine z_e (kk := ?_) | refine z_E (kk := ?_) | refine z_d (kk := ?_) | refine z_I (kk := fun _ => ?_) | refine z_J (kk := fun _ => ?_) | refine z_K (kk := fun _ => ?_) | refine z_L (kk := fun _ => ?_) | refine z_T (kk := ?_) | refine z_F (kk := ?_) | refine z_r (kk := fun _ _ _ _ => ?_) | refine z_D (kk := ?_) | refine z_g (kk := ?_) | refine z_h (kk := ?_)))
            refine W.condT rfl (by first | rfl | assumption | (simp only [bnf] <;> omega) | (simp only [*, bnf]; done) | fail) ?_
            (repeat (first | with_reducible refine W.seq ?_ | with_reducible refine Ops.nil ?_ | with_reducible refine W.region ?_ | refine z_p (kk := ?_) | refine z_a (kk := ?_) | refine z_y (kk := ?_) | refine z_n (kk := ?_) | refine z_u (kk := ?_) | with_reducible refine W.skip ?_ | with_reducible refine W.endb ?_ | with_reducible refine W.block ?_ | refine W.exit rfl ?_ | refine z_l (kk := ?_) | refine z_f (kk := ?_) | refine z_M (kk := ?_) | refine z_m (kk := ?_) | refine z_e (kk := ?_) | refine z_E (kk := ?_) | refine z_d (kk := ?_) | refine z_I (kk := fun _ => ?_) | refine z_J (kk := fun _ => ?_) | refine z_K (kk := fun _ => ?_) | refine z_L (kk := fun _ => ?_) | refine z_T (kk := ?_) | refine z_F (kk := ?_) | refine z_r (kk := fun _ _ _ _ => ?_) | refine z_D (kk := ?_) | refine z_g (kk := ?_) | refine z_h (kk := ?_)))
            exact W.fret rfl ⟨hdec (fun h => (h.2 i hil).2 q hql e), hb03⟩
          · (repeat (first | with_reducible refine W.seq ?_ | with_reducible refine Ops.nil ?_ | with_reducible refine W.region ?_ | refine z_p (kk := ?_) | refine z_a (kk := ?_) | refine z_y (kk := ?_) | refine z_n (kk := ?_) | refine z_u (kk := ?_) | with_reducible refine W.skip ?_ | with_reducible refine W.endb ?_ | with_reducible refine W.block ?_ | refine W.exit rfl ?_ | refine z_l (kk := ?_) | refine z_f (kk := ?_) | refine z_M (kk := ?_) | refine z_m (kk := ?_) | refine z_e (kk := ?_) | refine z_E (kk := ?_) | refine z_d (kk := ?_) | refine z_I (kk := fun _ => ?_) | refine z_J (kk := fun _ => ?_) | refine z_K (kk := fun _ => ?_) | refine z_L (kk := fun _ => ?_) | refine z_T (kk := ?_) | refine z_F (kk := ?_) | refine z_r (kk := fun _ _ _ _ => ?_) | refine z_D (kk := ?_) | refine z_g (kk := ?_) | refine z_h (kk := ?_)))
            refine W.condF rfl (by first | rfl | assumption | (simp only [bnf] <;> omega) | (simp only [*, bnf]; done) | fail) ?_
            (repeat (first | with_reducible refine W.seq ?_ | with_reducible refine Ops.nil ?_ | with_reducible refine W.region ?_ | refine z_p (kk := ?_) | refine z_a (kk := ?_) | refine z_y (kk := ?_) | refine z_n (kk := ?_) | refine z_u (kk := ?_) | with_reducible refine W.skip ?_ | with_reducible refine W.endb ?_ | with_reducible refine W.block ?_ | refine W.exit rfl ?_ | refine z_l (kk := ?_) | refine z_f (kk := ?_) | refine z_M (kk := ?_) | refine z_m (kk := ?_) | refine z_e (kk := ?_) | refine z_E (kk := ?_) | refine z_d (kk := ?_) | refine z_I (kk := fun _ => ?_) | refine z_J (kk := fun _ => ?_) | refine z_K (kk := fun _ => ?_) | refine z_L (kk := fun _ => ?_) | refine z_T (kk := ?_) | refine z_F (kk := ?_) | refine z_r (kk := fun _ _ _ _ => ?_) | refine z_D (kk := ?_) | refine z_g (kk := ?_) | refine z_h (kk := ?_)))
            exact W.endl ⟨_, _, ⟨⟨q + 1, rfl, by omega, rfl, hb03, fun p hp => by
              by_cases e2 : p = q
              · rw [e2]; exact e
              · exact hne p (by omega)⟩, by omega⟩, (by repeat (first | exact trivial | refine And.intro rfl ?_))⟩
        · have hql : q = i := by omega
          subst hql
          (repeat (first | with_reducible refine W.seq ?_ | with_reducible refine Ops.nil ?_ | with_reducible refine W.region ?_ | refine z_p (kk := ?_) | refine z_a (kk := ?_) | refine z_y (kk := ?_) | refine z_n (kk := ?_) | refine z_u (kk := ?_) | with_reducible refine W.skip ?_ | with_reducible refine W.endb ?_ | with_reducible refine W.block ?_ | refine W.exit rfl ?_ | refine z_l (kk := ?_) | refine z_f (kk := ?_) | refine z_M (kk := ?_) | refine z_m (kk := ?_) | refine z_e (kk := ?_) | refine z_E (kk := ?_) | refine z_d (kk := ?_) | refine z_I (kk := fun _ => ?_) | refine z_J (kk := fun _ => ?_) | refine z_K (kk := fun _ => ?_) | refine z_L (kk := fun _ => ?_) | refine z_T (kk := ?_) | refine z_F (kk := ?_) | refine z_r (kk := fun _ _ _ _ => ?_) | refine z_D (kk := ?_) | refine z_g (kk := ?_) | refine z_h (kk := ?_)))
          exact W.endl ⟨_, _, ⟨⟨q + 1, rfl, by omega, rfl, hb2, fun j hj => by
            by_cases e : j = q
            · rw [e]; exact ⟨by omega, hne⟩
            · exact hok j (by omega)⟩, by omega⟩, (by repeat (first | exact trivial | refine And.intro rfl ?_))⟩
  · have hil : i = xs.length := by omega
    subst hil
    (repeat (first | with_reducible refine W.seq ?_ | with_reducible refine Ops.nil ?_ | with_reducible refine W.region ?_ | refine z_p (kk := ?_) | refine z_a (kk := ?_) | refine z_y (kk := ?_) | refine z_n (kk := ?_) | refine z_u (kk := ?_) | with_reducible refine W.skip ?_ | with_reducible refine W.endb ?_ | with_reducible refine W.block ?_ | refine W.exit rfl ?_ | refine z_l (kk := ?_) | refine z_f (kk := ?_) | refine z_M (kk := ?_) | refine z_m (kk := ?_) | refine z_e (kk := ?_) | refine z_E (kk := ?_) | refine z_d (kk := ?_) | refine z_I (kk := fun _ => ?_) | refine z_J (kk := fun _ => ?_) | refine z_K (kk := fun _ => ?_) | refine z_L (kk := fun _ => ?_) | refine z_T (kk := ?_) | refine z_F (kk := ?_) | refine z_r (kk := fun _ _ _ _ => ?_) | refine z_D (kk := ?_) | refine z_g (kk := ?_) | refine z_h (kk := ?_)))
    refine W.fret rfl ⟨?_, hb1⟩
    show Value.bool _ = _
    congr 1
    rw [Bool.eq_iff_iff, decide_eq_true_iff, beq_iff_eq]
    exact ⟨fun h => ⟨by omega, hok⟩, fun h => by have := h.1; omega⟩
end Go.Proofs.Ytehjmakiljhjdaa
/- Lists of lists of the call's own. -/
namespace Go.Proofs.Ytehjmakiljhjdaa.VW
open Go Go.RowKit
theorem sl_kp' {α : Type} {enc : α → Value} {z : α} {w w' : World} {v : Value} {xs : List α} {S : Nat → Prop} (h : Sl enc z w v xs) (k : Kp S w w') (hs : 0 < xs.length → ∀ i, v.ownBlock = some i → ¬ S i) : Sl enc z w' v xs := by
  by_cases hp : 0 < xs.length
  · exact h.kp k (hs hp)
  · obtain ⟨h1, A, c, e, _⟩ := h
    exact ⟨h1, A, c, e, fun h => absurd h hp⟩
theorem appV_getD {α : Type} {xs : List α} {z d : α} {j : Nat} (h : j < xs.length) : (xs ++ [z]).getD j d = xs.getD j d := by rw [List.getD_eq_getElem?_getD, List.getElem?_append_left h, ← List.getD_eq_getElem?_getD]
theorem appV_last {α : Type} {xs : List α} {z d : α} {n : Nat} (h : n = xs.length) : (xs ++ [z]).getD n d = z := by subst h; simp [List.getD_eq_getElem?_getD]
structure RO (e : Nat) (w0 w : World) (ov : Value) (cvs : List Value) (c : List (List Int)) : Prop where
  o : OI e (fun v : Value => v) w0 w ov cvs
  len : cvs.length = c.length
  rows : ∀ j, j < c.length → SlI w (cvs.getD j undef) (c.getD j []) ∧ (0 < (c.getD j []).length → ∀ i, (cvs.getD j undef).ownBlock = some i → ov.ownBlock ≠ some i)
theorem RO.nil {e : Nat} {w0 w : World} (h : Below w0.heap.size w0 w) : RO e w0 w (.slice none 0 0) [] [] := ⟨OI.nil h, rfl, fun j hj => by simp at hj⟩
theorem RO.below {e : Nat} {w0 w w' : World} {ov : Value} {c : List (List Int)} {cvs : List Value} (h : RO e w0 w ov cvs c) (k : Below w.heap.size w w') : RO e w0 w' ov cvs c :=
  ⟨h.o.below k, h.len, fun j hj => ⟨Sl.below (h.rows j hj).1 k, (h.rows j hj).2⟩⟩
theorem RO.up {e : Nat} {w0 w1 w : World} {ov : Value} {c : List (List Int)} {cvs : List Value} (h : RO e w1 w ov cvs c) (k : Below w0.heap.size w0 w1) : RO e w0 w ov cvs c := ⟨h.o.up k, h.len, h.rows⟩
theorem RO.push {e : Nat} {w0 w w' : World} {ov ov' cv : Value} {c : List (List Int)} {cvs : List Value} {xs : List Int} (h : RO e w0 w ov cvs c) (hk : SlI w cv xs) (hne : 0 < xs.length → ∀ i, cv.ownBlock = some i → ov.ownBlock ≠ some i)
    (hO : OI e (fun v : Value => v) w0 w' ov' (cvs ++ [cv])) (k : Kp (fun i => ov.ownBlock = some i) w w') (hn : ∀ i, ov'.ownBlock = some i → ov.ownBlock = some i ∨ w.heap.size ≤ i) : RO e w0 w' ov' (cvs ++ [cv]) (c ++ [xs]) := by
  have hl := h.len
  refine ⟨hO, by simp [hl], fun j hj => ?_⟩
  have hgen : ∀ (v : Value) (ys : List Int), SlI w v ys → (0 < ys.length → ∀ i, v.ownBlock = some i → ov.ownBlock ≠ some i) → SlI w' v ys ∧ (0 < ys.length → ∀ i, v.ownBlock = some i → ov'.ownBlock ≠ some i) := fun v ys hv hs => by
    refine ⟨sl_kp' hv k (fun hp i hi e => hs hp i hi e), fun hp i hi e => ?_⟩
    rcases hn i e with e2 | e2
    · exact hs hp i hi e2
    · have := Sl.lt hv hp hi; omega
  rw [List.length_append, List.length_singleton] at hj
  by_cases e : j = c.length
  · subst e
    rw [appV_last hl.symm, appV_last rfl]
    exact hgen cv xs hk hne
  · rw [appV_getD (by omega), appV_getD (by omega)]
    exact hgen _ _ (h.rows j (by omega)).1 (h.rows j (by omega)).2
theorem RO.rowsM {e : Nat} {w0 w : World} {ov : Value} {c : List (List Int)} {cvs : List Value} (h : RO e w0 w ov cvs c) : RowsM w ov c := by
  obtain ⟨hl, A, k, rfl, hc⟩ := h.o.sl (z := undef)
  refine ⟨by rw [← h.len]; exact hl, A, k, cvs, by rw [h.len], fun hp => ?_, fun j hj => (h.rows j hj).1⟩
  obtain ⟨a, rfl, hcc⟩ := hc (by rw [h.len]; exact hp)
  exact ⟨a, rfl, fun j hj => hcc j (by rw [h.len]; exact hj)⟩
/-- Lists of lists that come in. -/
def ArgR (w : World) (v : Value) (c : List (List Int)) : Prop :=
  RowsM w v c ∧ ∀ i : Int, 0 ≤ i → i < c.length → ∃ a k A' k', v = .slice (some a) c.length k ∧ SlI w (.slice A' (row c i).length k') (row c i) ∧ (row c i).length ≤ k' ∧ ∀ w', Below w.heap.size w w' → w'.cell? (a.add (i.toNat * 1)) = some (.slice A' (row c i).length k')
section
variable {P : Program} [hT : Tab P] {n : Nat} {ds : List Deferred} {Φ : Post} {k : List It} {ρ : E} {w : World} {all : Array Oper} {l : List Oper} {md : Option (List Oper)}
theorem z_R {o1 o2 : Oper} {d1 d2 t s t' : Nat} {x y : Operand} {v : Value} {i : Int} {c : List (List Int)} {w0 : World} {c1 c2 : Bool} (h1 : o1.op = .indexAddr t x y := by exact rfl) (hd1 : o1.dst = some d1 := by exact rfl) (hg1 : gdB all ρ o1.guard = some c1 := by exact rfl) (hc1 : c1 = true := by exact rfl) (h2 : o2.op = .load t' (.tmp d1) := by exact rfl) (hd2 : o2.dst = some d2 := by exact rfl) (hg2 : ∀ p, gdB all ((d1, .pointer p) :: ρ) o2.guard = some c2 := by exact fun _ => rfl) (hc2 : c2 = true := by exact rfl)
    (ht : tyD P t = some (.slice s) := by exact rfl) (hs : tyS P s = some 1 := by exact rfl) (ha : tyAgg P t' = some false := by exact rfl) (hx : ev ρ x = some v := by exact rfl) (hy : ev ρ y = some (.int .i64 i) := by exact rfl) (htr : ArgR w0 v c := by assumption) (hbel : Below w0.heap.size w0 w := by first | assumption | exact Below.refl _ _) (h0 : 0 ≤ i := by omega) (hi : i < c.length := by omega)
    (kk : ∀ A m p, SlI w0 (.slice A (row c i).length m) (row c i) → (row c i).length ≤ m → Ops md P n ds all k Φ l ((d2, .slice A (row c i).length m) :: (d1, p) :: ρ) w) : Ops md P n ds all k Φ (o1 :: o2 :: l) ρ w := by
  obtain ⟨a, m, A', m', rfl, hsl, hcap, hcell⟩ := htr.2 i h0 hi
  exact Ops.evG hd1 hg1 hc1 (EV.idx h1 ht hs hx hy h0 hi) (Ops.evG hd2 (hg2 _) hc2 (EV.ld h2 ha (ev_top _ _ _) (hcell w hbel)) (kk _ _ _ hsl hcap))
end
end Go.Proofs.Ytehjmakiljhjdaa.VW
/- Numbers as sets of bits; maps that may be nil. -/
namespace Go.Proofs.Ytehjmakiljhjdaa.VW
open Go Go.RowKit
theorem wrap_nat {x : Nat} (h : x < 4611686018427387904) : IntKind.i64.wrap (x : Int) = x := wrap_in (by unfold inR; omega)
theorem m_shr {t j : Nat} (hj : j ≤ 60) : bsh .shr .i64 (t : Int) (j : Int) = some ((t / 2 ^ j : Nat) : Int) := by
  have h0 : ¬ ((j : Int) < 0) := by omega
  have h1 : min ((j : Int).toNat) (IntKind.bits .i64) = j := by simp [IntKind.bits]; omega
  simp only [bsh, h0, if_false, h1]
  congr 1
  have h2 : (2 : Int) ^ j = ((2 ^ j : Nat) : Int) := by rw [Int.natCast_pow]; rfl
  rw [h2, Int.fdiv_eq_ediv_of_nonneg _ (Int.natCast_nonneg _), Int.natCast_ediv]
theorem m_shl {j : Nat} (hj : j ≤ 60) : bsh .shl .i64 1 (j : Int) = some ((2 ^ j : Nat) : Int) := by
  have h0 : ¬ ((j : Int) < 0) := by omega
  have h1 : min ((j : Int).toNat) (IntKind.bits .i64) = j := by simp [IntKind.bits]; omega
  simp only [bsh, h0, if_false, h1]
  congr 1
  have h2 : (1 : Int) * 2 ^ j = ((2 ^ j : Nat) : Int) := by rw [Int.natCast_pow, Int.one_mul]; rfl
  rw [h2]
  refine wrap_nat ?_
  calc 2 ^ j ≤ 2 ^ 60 := Nat.pow_le_pow_right (by omega) hj
    _ < _ := by decide
theorem m_and1 {t : Nat} (ht : t < 4611686018427387904) : bw .and .i64 (t : Int) 1 = some ((t % 2 : Nat) : Int) := by
  simp only [bw]
  congr 1
  have h1 : (BitVec.ofInt (IntKind.bits .i64) (t : Int) &&& BitVec.ofInt (IntKind.bits .i64) 1).toNat = t % 2 := by
    have e1 : (BitVec.ofInt (IntKind.bits .i64) (t : Int)).toNat = t := by show (BitVec.ofInt 64 (t : Int)).toNat = t; simp [BitVec.toNat_ofInt]; omega
    have e2 : (BitVec.ofInt (IntKind.bits .i64) 1).toNat = 1 := by decide
    rw [BitVec.toNat_and, e1, e2, Nat.and_one_is_mod]
  rw [h1]
  exact wrap_nat (by omega)
theorem m_or {t s : Nat} (ht : t < 2 ^ 60) (hs : s < 2 ^ 60) : bw .or .i64 (t : Int) (s : Int) = some ((t ||| s : Nat) : Int) := by
  simp only [bw]
  congr 1
  have h1 : (BitVec.ofInt (IntKind.bits .i64) (t : Int) ||| BitVec.ofInt (IntKind.bits .i64) (s : Int)).toNat = t ||| s := by
    have e1 : ∀ t : Nat, t < 2 ^ 60 → (BitVec.ofInt (IntKind.bits .i64) (t : Int)).toNat = t := fun t ht => by show (BitVec.ofInt 64 (t : Int)).toNat = t; simp [BitVec.toNat_ofInt]; omega
    rw [BitVec.toNat_or, e1 t ht, e1 s hs]
  rw [h1]
  refine wrap_nat ?_
  have := Nat.or_lt_two_pow ht hs
  omega
theorem bit_iff {t j : Nat} : (((t / 2 ^ j % 2 : Nat) : Int) == 1) = t.testBit j := by
  rw [Nat.testBit_eq_decide_div_mod_eq, Bool.eq_iff_iff, beq_iff_eq, decide_eq_true_iff]
  omega
/-- A map from ints to true that may be nil. -/
def OutM (w : World) (ov : Value) (g : Int → Bool) (b : Nat) : Prop := (ov = .map none ∧ g = fun _ => false) ∨ ∃ r, ov = .map (some r) ∧ r ≠ b ∧ MapB w r g
theorem OutM.kp {w w' : World} {ov : Value} {g : Int → Bool} {b : Nat} {S : Nat → Prop} (h : OutM w ov g b) (k : Kp S w w') (hs : ∀ r, ov = .map (some r) → ¬ S r) : OutM w' ov g b := by
  rcases h with h | ⟨r, e, hn, hm⟩
  · exact .inl h
  · exact .inr ⟨r, e, hn, hm.kp k (hs r e)⟩
theorem OutM.kpb {w w' : World} {ov : Value} {g : Int → Bool} {b : Nat} (h : OutM w ov g b) (k : Kp (fun i => i = b) w w') : OutM w' ov g b := by
  rcases h with h | ⟨r, e, hn, hm⟩
  · exact .inl h
  · exact .inr ⟨r, e, hn, hm.kp k hn⟩
section
variable {P : Program} [hT : Tab P] {n : Nat} {ds : List Deferred} {Φ : Post} {k : List It} {ρ : E} {w : World} {all : Array Oper} {l : List Oper} {md : Option (List Oper)}
theorem Ops.lookO {o : Oper} {d t kt et b : Nat} {x y : Operand} {i : Int} {ov : Value} {g : Int → Bool} (ho : o.op = .lookup t x y false) (hd : o.dst = some d) (hg : o.guard = none)
    (ht : tyD P t = some (.map kt et)) (hkt : tyD P kt = some (.int .i64)) (hz : tyZ P et = some (.bool false)) (hx : ev ρ x = some ov) (hy : ev ρ y = some (.int .i64 i)) (hm : OutM w ov g b)
    (hk : Ops md P n ds all k Φ l ((d, .bool (g i)) :: ρ) w) : Ops md P n ds all k Φ (o :: l) ρ w := by
  rcases hm with ⟨rfl, rfl⟩ | ⟨r, rfl, _, hm⟩
  · refine Ops.valS hd hg (fun a hr => ?_) hk
    have h3 := run_findKey_int (P := P) (w := w) (kt := kt) (es := []) (x := i) (r := none) (td_int (tyD_ok hkt)) rfl
    simp [execOp, ho, hr.ev hx, hr.ev hy, Instr.lookup, run_und (td_map (tyD_ok ht)), run_checkKey_int (td_int (tyD_ok hkt)), h3, run_zeroV hz]
  · exact Ops.look ho hd hg ht hkt hz hx hy hm hk
end
end Go.Proofs.Ytehjmakiljhjdaa.VW
/- Rules with standing arguments: bits, pairs, fields of a block. -/
namespace Go.Proofs.Ytehjmakiljhjdaa.VW
open Go Go.RowKit
section
variable {P : Program} [hT : Tab P] {n : Nat} {ds : List Deferred} {Φ : Post} {k : List It} {ρ : E} {w : World} {all : Array Oper} {l : List Oper} {md : Option (List Oper)} {s : Nat} {F : World → Prop} {π : List (Nat × Nat)} {L : List Bool}
theorem z_B {o : Oper} {c : Bool} {d t : Nat} {x y : Operand} {u v z0 z1 : Value} (hd : o.dst = some d := by exact rfl) (hg : gdB all ρ o.guard = some c := by exact rfl) (hgc : c = true := by exact rfl) (ho : o.op = .build t #[(0, x), (1, y)] := by exact rfl)
    (ht : tyD P t = some (.struct [(0, 1), (1, 1)]) := by exact rfl) (hz : tyZ P t = some (.agg #[z0, z1]) := by exact rfl) (hx : ev ρ x = some u := by exact rfl) (hy : ev ρ y = some v := by exact rfl) (h1 : u.oneCell' = true := by exact rfl) (h2 : v.oneCell' = true := by exact rfl)
    (kk : Ops md P n ds all k Φ l ((d, .agg #[u, v]) :: ρ) w) : Ops md P n ds all k Φ (o :: l) ρ w := Ops.evG hd hg hgc (EV.bld2 ho ht hz hx hy h1 h2) kk
theorem z_S {o : Oper} {c : Bool} {d j t t' : Nat} {x y : Operand} (hd : o.dst = some d := by exact rfl) (hg : gdB all ρ o.guard = some c := by exact rfl) (hgc : c = true := by exact rfl) (ho : o.op = .binOp .shl t x y t' := by exact rfl) (hx : ev ρ x = some (.int .i64 1) := by exact rfl) (hy : ev ρ y = some (.int .i64 (j : Int)) := by exact rfl) (hj : j ≤ 60 := by omega)
    (kk : Ops md P n ds all k Φ l ((d, .int .i64 ((2 ^ j : Nat) : Int)) :: ρ) w) : Ops md P n ds all k Φ (o :: l) ρ w := Ops.evG hd hg hgc (EV.bsh ho hx hy (m_shl hj)) kk
theorem z_Q {o : Oper} {c : Bool} {d j m t t' : Nat} {x y : Operand} (hd : o.dst = some d := by exact rfl) (hg : gdB all ρ o.guard = some c := by exact rfl) (hgc : c = true := by exact rfl) (ho : o.op = .binOp .shr t x y t' := by exact rfl) (hx : ev ρ x = some (.int .i64 (m : Int)) := by exact rfl) (hy : ev ρ y = some (.int .i64 (j : Int)) := by exact rfl) (hj : j ≤ 60 := by omega)
    (kk : Ops md P n ds all k Φ l ((d, .int .i64 ((m / 2 ^ j : Nat) : Int)) :: ρ) w) : Ops md P n ds all k Φ (o :: l) ρ w := Ops.evG hd hg hgc (EV.bsh ho hx hy (m_shr hj)) kk
theorem z_1 {o : Oper} {c : Bool} {d m t t' : Nat} {x y : Operand} (hd : o.dst = some d := by exact rfl) (hg : gdB all ρ o.guard = some c := by exact rfl) (hgc : c = true := by exact rfl) (ho : o.op = .binOp .and t x y t' := by exact rfl) (hx : ev ρ x = some (.int .i64 (m : Int)) := by exact rfl) (hy : ev ρ y = some (.int .i64 1) := by exact rfl) (hm : m < 4611686018427387904 := by omega)
    (kk : Ops md P n ds all k Φ l ((d, .int .i64 ((m % 2 : Nat) : Int)) :: ρ) w) : Ops md P n ds all k Φ (o :: l) ρ w := Ops.evG hd hg hgc (EV.bw ho hx hy (m_and1 hm)) kk
theorem z_O {o : Oper} {c : Bool} {d a b t t' : Nat} {x y : Operand} (hd : o.dst = some d := by exact rfl) (hg : gdB all ρ o.guard = some c := by exact rfl) (hgc : c = true := by exact rfl) (ho : o.op = .binOp .or t x y t' := by exact rfl) (hx : ev ρ x = some (.int .i64 (a : Int)) := by exact rfl) (hy : ev ρ y = some (.int .i64 (b : Int)) := by exact rfl) (ha : a < 1152921504606846976 := by omega) (hb : b < 1152921504606846976 := by omega)
    (kk : Ops md P n ds all k Φ l ((d, .int .i64 ((a ||| b : Nat) : Int)) :: ρ) w) : Ops md P n ds all k Φ (o :: l) ρ w := Ops.evG hd hg hgc (EV.bw ho hx hy (m_or (by simpa using ha) (by simpa using hb))) kk
/-- A pair out of a block. -/
theorem z_2 {o : Oper} {d t b t' : Nat} {x : Operand} {cs : Array Value} {v u : Value} {w0 : World} (hd : o.dst = some d := by exact rfl) (hg : o.guard = none := by exact rfl) (ho : o.op = .load t x := by exact rfl)
    (ht : tyAgg P t = some true := by exact rfl) (hs : tyS P t = some 2 := by exact rfl) (hx : ev ρ x = some (.pointer (some ⟨b, 0, none⟩)) := by exact rfl) (hb : Blk w0 b cs t' := by assumption) (hbel : Below w0.heap.size w0 w := by first | assumption | exact Below.refl _ _) (h0 : nth cs.toList 0 = some v := by exact rfl) (h1 : nth cs.toList 1 = some u := by exact rfl)
    (kk : Ops md P n ds all k Φ l ((d, .agg #[v, u]) :: ρ) w) : Ops md P n ds all k Φ (o :: l) ρ w := by
  have hb' := hb.kp (Kp.of_below (S := fun _ => False) hbel) (fun e => e)
  rw [nth_eq, Array.getElem?_toList] at h0 h1
  exact Ops.ld2 ho hd hg ht hs hx (hb'.cell h0) (by rw [add_lit]; exact hb'.cell h1) kk
theorem x_P {i d t j off sz b q : Nat} {o : Oper} {x : Operand} {c : Bool} (h1 : all[i]? = some o := by exact rfl) (hd : o.dst = some d := by exact rfl) (hg : gdB all ρ o.guard = some c := by exact rfl) (hgc : c = true := by exact rfl) (ho : o.op = .fieldAddr t x j := by exact rfl) (ht : fieldOff P t j = some (off, sz + 1) := by exact rfl) (hx : ev ρ x = some (.pointer (some ⟨b, q, none⟩)) := by exact rfl)
    (kk : OrdA P n ds all k Φ s F π (L.set i true) ((d, .pointer (some ⟨b, q + off, none⟩)) :: ρ)) : OrdA P n ds all k Φ s F ((i, 1) :: π) L ρ := by
  refine OrdA.pure h1 hd hg hgc (fun _ => ?_) kk
  rw [← add_lit]
  exact EV.fld ho ht hx
theorem x_B {i d t : Nat} {o : Oper} {x y : Operand} {c : Bool} {u v z0 z1 : Value} (h0 : all[i]? = some o := by exact rfl) (hd : o.dst = some d := by exact rfl) (hg : gdB all ρ o.guard = some c := by exact rfl) (hgc : c = true := by exact rfl) (ho : o.op = .build t #[(0, x), (1, y)] := by exact rfl)
    (ht : tyD P t = some (.struct [(0, 1), (1, 1)]) := by exact rfl) (hz : tyZ P t = some (.agg #[z0, z1]) := by exact rfl) (hx : ev ρ x = some u := by exact rfl) (hy : ev ρ y = some v := by exact rfl) (h1 : u.oneCell' = true := by exact rfl) (h2 : v.oneCell' = true := by exact rfl)
    (kk : OrdA P n ds all k Φ s F π (L.set i true) ((d, .agg #[u, v]) :: ρ)) : OrdA P n ds all k Φ s F ((i, 1) :: π) L ρ := OrdA.pure h0 hd hg hgc (fun _ => EV.bld2 ho ht hz hx hy h1 h2) kk
theorem x_S {i d j t t' : Nat} {o : Oper} {x y : Operand} {c : Bool} (h0 : all[i]? = some o := by exact rfl) (hd : o.dst = some d := by exact rfl) (hg : gdB all ρ o.guard = some c := by exact rfl) (hgc : c = true := by exact rfl) (ho : o.op = .binOp .shl t x y t' := by exact rfl) (hx : ev ρ x = some (.int .i64 1) := by exact rfl) (hy : ev ρ y = some (.int .i64 (j : Int)) := by exact rfl) (hj : j ≤ 60 := by omega)
    (kk : OrdA P n ds all k Φ s F π (L.set i true) ((d, .int .i64 ((2 ^ j : Nat) : Int)) :: ρ)) : OrdA P n ds all k Φ s F ((i, 1) :: π) L ρ := OrdA.pure h0 hd hg hgc (fun _ => EV.bsh ho hx hy (m_shl hj)) kk
theorem x_O {i d a b t t' : Nat} {o : Oper} {x y : Operand} {c : Bool} (h0 : all[i]? = some o := by exact rfl) (hd : o.dst = some d := by exact rfl) (hg : gdB all ρ o.guard = some c := by exact rfl) (hgc : c = true := by exact rfl) (ho : o.op = .binOp .or t x y t' := by exact rfl) (hx : ev ρ x = some (.int .i64 (a : Int)) := by exact rfl) (hy : ev ρ y = some (.int .i64 (b : Int)) := by exact rfl) (ha : a < 1152921504606846976 := by omega) (hb : b < 1152921504606846976 := by omega)
    (kk : OrdA P n ds all k Φ s F π (L.set i true) ((d, .int .i64 ((a ||| b : Nat) : Int)) :: ρ)) : OrdA P n ds all k Φ s F ((i, 1) :: π) L ρ := OrdA.pure h0 hd hg hgc (fun _ => EV.bw ho hx hy (m_or (by simpa using ha) (by simpa using hb))) kk
end
end Go.Proofs.Ytehjmakiljhjdaa.VW
/- Arrays in blocks of the call's own; the rules of V30 in drawn regions with effects. -/
namespace Go.Proofs.Ytehjmakiljhjdaa.VW
open Go Go.RowKit
section
variable {P : Program} [hT : Tab P] {n : Nat} {ds : List Deferred} {Φ : Post} {k : List It} {ρ : E} {w : World} {all : Array Oper} {l : List Oper} {md : Option (List Oper)} {s : Nat} {F : World → Prop} {π : List (Nat × Nat)} {L : List Bool}
theorem y_P {i d t j off sz b q : Nat} {o : Oper} {x : Operand} {c : Bool} (h1 : all[i]? = some o := by exact rfl) (hd : o.dst = some d := by exact rfl) (hg : gdB all ρ o.guard = some c := by exact rfl) (hgc : c = true := by exact rfl) (ho : o.op = .fieldAddr t x j := by exact rfl) (ht : fieldOff P t j = some (off, sz + 1) := by exact rfl) (hx : ev ρ x = some (.pointer (some ⟨b, q, none⟩)) := by exact rfl) (hΦ : ∀ c ρ w, ¬ Φ (.panic c) ρ w := by exact fun _ _ _ h => h)
    (kk : VW.Ord P n ds all k Φ s F π (L.set i true) ((d, .pointer (some ⟨b, q + off, none⟩)) :: ρ) w) : VW.Ord P n ds all k Φ s F ((i, 1) :: π) L ρ w := by
  refine VW.Ord.pure h1 hd hg hgc hΦ (fun _ => ?_) kk
  rw [← add_lit]
  exact EV.fld ho ht hx
theorem y_B {i d t : Nat} {o : Oper} {x y : Operand} {c : Bool} {u v z0 z1 : Value} (h0 : all[i]? = some o := by exact rfl) (hd : o.dst = some d := by exact rfl) (hg : gdB all ρ o.guard = some c := by exact rfl) (hgc : c = true := by exact rfl) (ho : o.op = .build t #[(0, x), (1, y)] := by exact rfl)
    (ht : tyD P t = some (.struct [(0, 1), (1, 1)]) := by exact rfl) (hz : tyZ P t = some (.agg #[z0, z1]) := by exact rfl) (hx : ev ρ x = some u := by exact rfl) (hy : ev ρ y = some v := by exact rfl) (h1 : u.oneCell' = true := by exact rfl) (h2 : v.oneCell' = true := by exact rfl) (hΦ : ∀ c ρ w, ¬ Φ (.panic c) ρ w := by exact fun _ _ _ h => h)
    (kk : VW.Ord P n ds all k Φ s F π (L.set i true) ((d, .agg #[u, v]) :: ρ) w) : VW.Ord P n ds all k Φ s F ((i, 1) :: π) L ρ w := VW.Ord.pure h0 hd hg hgc hΦ (fun _ => EV.bld2 ho ht hz hx hy h1 h2) kk
theorem y_S {i d j t t' : Nat} {o : Oper} {x y : Operand} {c : Bool} (h0 : all[i]? = some o := by exact rfl) (hd : o.dst = some d := by exact rfl) (hg : gdB all ρ o.guard = some c := by exact rfl) (hgc : c = true := by exact rfl) (ho : o.op = .binOp .shl t x y t' := by exact rfl) (hx : ev ρ x = some (.int .i64 1) := by exact rfl) (hy : ev ρ y = some (.int .i64 (j : Int)) := by exact rfl) (hj : j ≤ 60 := by omega) (hΦ : ∀ c ρ w, ¬ Φ (.panic c) ρ w := by exact fun _ _ _ h => h)
    (kk : VW.Ord P n ds all k Φ s F π (L.set i true) ((d, .int .i64 ((2 ^ j : Nat) : Int)) :: ρ) w) : VW.Ord P n ds all k Φ s F ((i, 1) :: π) L ρ w := VW.Ord.pure h0 hd hg hgc hΦ (fun _ => EV.bsh ho hx hy (m_shl hj)) kk
theorem y_O {i d a b t t' : Nat} {o : Oper} {x y : Operand} {c : Bool} (h0 : all[i]? = some o := by exact rfl) (hd : o.dst = some d := by exact rfl) (hg : gdB all ρ o.guard = some c := by exact rfl) (hgc : c = true := by exact rfl) (ho : o.op = .binOp .or t x y t' := by exact rfl) (hx : ev ρ x = some (.int .i64 (a : Int)) := by exact rfl) (hy : ev ρ y = some (.int .i64 (b : Int)) := by exact rfl) (ha : a < 1152921504606846976 := by omega) (hb : b < 1152921504606846976 := by omega) (hΦ : ∀ c ρ w, ¬ Φ (.panic c) ρ w := by exact fun _ _ _ h => h)
    (kk : VW.Ord P n ds all k Φ s F π (L.set i true) ((d, .int .i64 ((a ||| b : Nat) : Int)) :: ρ) w) : VW.Ord P n ds all k Φ s F ((i, 1) :: π) L ρ w := VW.Ord.pure h0 hd hg hgc hΦ (fun _ => EV.bw ho hx hy (m_or (by simpa using ha) (by simpa using hb))) kk
theorem y_D {i d t b q t' : Nat} {o : Oper} {x : Operand} {cs : Array Value} {v : Value} {w0 : World} {c : Bool} (h1 : all[i]? = some o := by exact rfl) (ho : o.op = .load t x := by exact rfl) (hd : o.dst = some d := by exact rfl) (hg : gdB all ρ o.guard = some c := by exact rfl) (hgc : c = true := by exact rfl)
    (ht : tyAgg P t = some false := by exact rfl) (hx : ev ρ x = some (.pointer (some ⟨b, q, none⟩)) := by exact rfl) (hb : Blk w0 b cs t' := by assumption) (hF : ∀ w, F w → Below w0.heap.size w0 w := by first | exact fun _ h => h | (intro _ h; exact Below.via (by assumption) h)) (hi : nth cs.toList q = some v := by exact rfl) (hΦ : ∀ c ρ w, ¬ Φ (.panic c) ρ w := by exact fun _ _ _ h => h)
    (kk : VW.Ord P n ds all k Φ s F π (L.set i true) ((d, v) :: ρ) w) : VW.Ord P n ds all k Φ s F ((i, 2) :: π) L ρ w :=
  VW.Ord.read' h1 hd hg hgc hΦ (fun w hFw => EV.ld ho ht hx ((hb.kp (Kp.of_below (S := fun _ => False) (hF w hFw)) (fun e => e)).cell (by rw [nth_eq, Array.getElem?_toList] at hi; exact hi))) kk
/-- An array or a struct of nothing but zeros. -/
theorem EV.bld0 {o : Oper} {t e sz len : Nat} {z : Value} (ho : o.op = .build t #[]) (ht : tyD P t = some (.array len e)) (hs : tyS P e = some sz) (hz : tyZ P t = some z) : EV P n ρ w o (.agg z.cells) := by
  intro a hr
  simp [execOp, ho, Instr.build, run_zeroV hz, run_und (td_array (tyD_ok ht)), run_sizeOf hs, Instr.fill]
/-- The place of an element of an array. -/
theorem EV.idxP {o : Oper} {t e sz len : Nat} {x y : Operand} {A : Addr} {i : Int} (ho : o.op = .indexAddr t x y)
    (ht : tyD P t = some (.array len e)) (hs : tyS P e = some sz) (hx : ev ρ x = some (.pointer (some A))) (hy : ev ρ y = some (.int .i64 i)) (h0 : 0 ≤ i) (h1 : i < len) : EV P n ρ w o (.pointer (some (A.add (i.toNat * sz)))) := by
  intro a hr
  have hu := td_array (tyD_ok ht)
  simp [execOp, ho, Instr.indexAt, asIntOf, hr.ev hx, hr.ev hy, run_und hu, run_sizeOf hs, h0, h1, Instr.sureAddr]
/-- A store of any size into a block of the call's own. -/
theorem run_storeCells {b t' : Nat} : ∀ (vs done old : List Value) (w : World), Blk w b (done ++ old).toArray t' → vs.length = old.length → (∀ v ∈ vs, v.oneCell' = true) → ∃ w', (storeCells ⟨b, 0, none⟩ vs done.length).run P w = .ok () w' ∧ Upd w w' b (done ++ vs).toArray t'
  | [], done, old, w, hb, hl, _ => by
    have : old = [] := List.eq_nil_of_length_eq_zero (by simpa using hl.symm)
    subst this
    exact ⟨w, by simp [storeCells], hb, Kp.refl _ _, rfl⟩
  | v :: vs, done, [], w, hb, hl, _ => by simp at hl
  | v :: vs, done, c :: old, w, hb, hl, h1 => by
    have hc : w.cell? ⟨b, done.length, none⟩ = some c := hb.cell (by simp)
    have hfz : w.frozen? ⟨b, done.length, none⟩ = false := by unfold Blk at hb; simp [World.frozen?, hb]
    have hr := run_store (P := P) (h1 v (by simp)) hc hfz
    have hu := upd_set hb done.length v
    have hset : (done ++ c :: old).toArray.setIfInBounds done.length v = ((done ++ [v]) ++ old).toArray := by
      apply Array.toList_inj.1
      simp
    rw [hset] at hu
    obtain ⟨w', hr', hu'⟩ := run_storeCells vs (done ++ [v]) old _ hu.blk (by simpa using hl) (fun u hu => h1 u (by simp [hu]))
    refine ⟨w', ?_, ?_, (hu.kp.trans hu'.kp).mono (fun i _ e => by rcases e with e | e <;> exact e), hu'.size.trans hu.size⟩
    · rw [List.length_append, List.length_singleton] at hr'
      unfold storeCells
      simp [add_lit, hr, hr']
    · have := hu'.blk
      rwa [List.append_assoc, List.singleton_append] at this
theorem Ops.stN {o : Oper} {t b t' : Nat} {x y : Operand} {vs cs : List Value} (ho : o.op = .store t x y) (hd : o.dst = none) (hg : o.guard = none)
    (hs : tyS P t = some cs.length) (hx : ev ρ x = some (.pointer (some ⟨b, 0, none⟩))) (hy : ev ρ y = some (.agg vs.toArray)) (h1 : ∀ v ∈ vs, v.oneCell' = true) (hl : vs.length = cs.length) (hb : Blk w b cs.toArray t')
    (hk : ∀ w', Upd w w' b vs.toArray t' → Ops none P n ds all k Φ l ρ w') : Ops none P n ds all k Φ (o :: l) ρ w := by
  obtain ⟨w', hr', hu⟩ := run_storeCells (P := P) vs [] cs w (by simpa using hb) hl h1
  refine Ops.unit hg hd (fun a hr => ?_) (hk w' (by simpa using hu))
  simp only [execOp, ho, hr.ev hx, hr.ev hy]
  simp [Instr.storeAt, Instr.sureAddr, storeVar, run_sizeOf hs, Value.cells, hl]
  simp at hr'
  rw [hr']
  rfl
theorem run_loadCells {b t' : Nat} : ∀ (rest done : List Value), Blk w b (done ++ rest).toArray t' → (loadCellsFrom ⟨b, 0, none⟩ done.length rest.length done.toArray).run P w = .ok (done ++ rest).toArray w
  | [], done, hb => by simp [loadCellsFrom]
  | v :: rest, done, hb => by
    have hc : w.cell? ⟨b, done.length, none⟩ = some v := hb.cell (by simp)
    have ih := run_loadCells rest (done ++ [v]) (by simpa using hb)
    rw [List.length_append, List.length_singleton] at ih
    simp only [List.length_cons, loadCellsFrom]
    simp [add_lit, load, Sem.run, hc]
    simpa [Sem.run] using ih
/-- The whole of a block of the call's own. -/
theorem EV.ldN {o : Oper} {t b t' : Nat} {x : Operand} {cs : List Value} (ho : o.op = .load t x) (ht : tyAgg P t = some true) (hs : tyS P t = some cs.length) (hx : ev ρ x = some (.pointer (some ⟨b, 0, none⟩))) (hb : Blk w b cs.toArray t') : EV P n ρ w o (.agg cs.toArray) := by
  intro a hr
  have h := run_loadCells (P := P) cs [] (by simpa using hb)
  simp at h
  simp [execOp, ho, Instr.loadAt, Instr.sureAddr, hr.ev hx, loadVar, run_isAgg ht, run_sizeOf hs, loadCells, h]
omit n in
/-- A result of many cells that lies in memory. -/
theorem W.fretCN {fn : Func} {R : Value → World → Prop} {a t b t' : Nat} {cs : List Value} (hres : fn.results = #[.cell a t]) (hl : look ρ a = some (.pointer (some ⟨b, 0, none⟩))) (hs : tyS P t = some cs.length) (hg : tyAgg P t = some true)
    (hb : Blk w b cs.toArray t') (hR : R (.agg cs.toArray) w) : W P fn.ntmps ds (.code .ret :: k) (Fin P fn R) ρ w := by
  refine W.ret ⟨_, fun act hr => ?_, hR⟩
  have h := run_loadCells (P := P) cs [] (by simpa using hb)
  simp at h
  have hsl := hr.slot a _ hl
  rw [Array.getD_eq_getD_getElem?] at hsl
  simp [results, hres, hsl, asAddr, loadVar, run_isAgg hg, run_sizeOf hs, loadCells, h]
end
end Go.Proofs.Ytehjmakiljhjdaa.VW
/- A range over a function of two values, whose rounds may return. -/
namespace Go.Proofs.Ytehjmakiljhjdaa.VW
open Go Go.RowKit
theorem kp_putObj {w : World} {r : Nat} (o : Obj) : Kp (fun k => k = r) w (w.putObj r o) := (Kp.of_grown (grownBy_putObj' w r o)).mono fun k _ e => by cases e; rfl
theorem at_kp {S : Nat → Prop} {w w' : World} {b : Nat} {o : Obj} (h : w.heap[b]? = some o) (k : Kp S w w') (hs : ¬ S b) : w'.heap[b]? = some o := (k.blk b (Array.getElem?_eq_some_iff.1 h).1 hs).trans h
section
variable {P : Program} {n : Nat} {ds : List Deferred} {ρ : E} {w : World} {r : Option Nat}
theorem Wi.ret {Q : Post} (h : Q .ret ρ w) : Wi r P n ds .ret Q ρ w := fun a hr hd => wpIn_ret ⟨ρ, hr, hd, h⟩
theorem round_in2 {fn : FuncId} {tmps : Array Value} {p1 p2 : Nat} {assign body : Code} {D L : Nat} {v1 v2 : Value} {R : Ending → World → Prop} (hL : w.heap[L]? = some (.loop (loopRec fn tmps #[p1, p2] assign body D))) (hr : Rep n { tmps := tmps, defers := [] } ρ) (hp1 : Nat.blt p1 n = true) (hp2 : Nat.blt p2 n = true)
    (h : Wi (some L) P n [] assign (fun e ρ1 w1 => e = .normal ∧ ∃ r, w1.heap[L]? = some (.loop r) ∧ r.state = .ready ∧ Wi (some L) P n [] body (fun e ρ2 w2 => ∃ r2, w2.heap[L]? = some (.loop r2) ∧ ((e = .normal ∧ R (.returned (.bool true)) (w2.putObj L (.loop { r2 with state := .ready, pending := none }))) ∨ (e = .ret ∧ R (.returned (.bool false)) (w2.putObj L (.loop { r2 with state := .done, pending := some .ret }))))) ρ1 (w1.putObj L (.loop { r with state := .busy }))) ((p2, v2) :: (p1, v1) :: ρ) w) :
    YieldAt (Fw none) 0 P L #[v1, v2] w R := by
  refine ⟨fn, _, assign, body, run_yield hL rfl, roundIn_of_wpIn (Fw_fn none fn) ?_⟩
  have hrep : Rep n { tmps := ((#[p1, p2] : Array Tmp).zip #[v1, v2]).foldl (fun tmps (t, a) => tmps.setIfInBounds t a) tmps, defers := [] } ((p2, v2) :: (p1, v1) :: ρ) := by
    have h1 := hr.put (d := some p1) hp1 v1
    have h2 := h1.put (d := some p2) hp2 v2
    simpa [Act.put, VW.put] using h2
  refine wpIn_mono (h _ hrep rfl) ?_
  rintro e a w1 ⟨ρ1, hr1, hd1, rfl, r, hl1, hs1, hb⟩
  refine ⟨_, run_beginRound hl1 hs1, wpIn_mono (hb _ hr1 hd1) ?_⟩
  rintro e a2 w2 ⟨ρ2, hr2, hd2, r2, hl2, ⟨rfl, hR⟩ | ⟨rfl, hR⟩⟩
  · exact ⟨_, _, run_endRound none hl2, hR⟩
  · exact ⟨_, _, run_endRound (some .ret) hl2, hR⟩
/-- A call of yield with two values. -/
theorem OpsI.yield2 {all : Array Oper} {Q : Post} {rest : List Oper} {o : Oper} {d : Nat} {x y1 y2 : Operand} {l : Nat} {v1 v2 : Value} {ts : Array TypeId}
    (ho : o.op = .call { callee := .value x, args := #[y1, y2], argTypes := ts }) (hdst : o.dst = some d) (hlt : Nat.blt d n = true) (hg : o.guard = none)
    (hx : ev ρ x = some (.func (.yield l) #[] #[])) (hy1 : ev ρ y1 = some v1) (hy2 : ev ρ y2 = some v2)
    (hyld : YieldAt (Fw r) 0 P l #[v1, v2] w (fun e w' => ∃ b, e = .returned (.bool b) ∧ OpsI r P n ds all Q rest ((d, .bool b) :: ρ) w')) : OpsI r P n ds all Q (o :: rest) ρ w := by
  intro a hr hd
  unfold wpListIn
  rw [if_pos (by simp [Region.wanted, hg])]
  refine ⟨fun f _ => Fw_fn r f, ?_⟩
  rw [Oper.semAt_eq _ _ _ (by rw [ho]; simp)]
  obtain ⟨fn, tmps, assign, body, hrun, hround⟩ := hyld
  have he : (execOp a.eval o).run P w = .ok (.round l fn tmps assign body) w := by
    have q : #[y1, y2].map a.eval = #[v1, v2] := by simp only [List.map_toArray, List.map_cons, List.map_nil, hr.ev hy1, hr.ev hy2]
    rw [← hrun]
    simp only [execOp, ho, resolve, q]
    simp [hr.ev hx, Deferred.ofValue, invoke]
  rw [he, Oper.uponIn_round]
  refine ⟨fun h => (by rw [Fw_dep] at h; cases h), RoundIn.mono hround fun e w' he => ?_⟩
  obtain ⟨b, rfl, h⟩ := he
  have hput : Rep n (a.put o.dst (.bool b)) ((d, .bool b) :: ρ) := by
    have := hr.put (d := o.dst) (by rw [hdst]; exact hlt) (.bool b)
    rw [hdst] at this ⊢
    exact this
  exact h _ hput (by rw [hdst]; exact hd)
theorem JW.range2 {id : Nat} {g : Operand} {p1 p2 : Nat} {assign body c2 : Code} {gf : Nat} {lb : List Value} {Φ : Post} (hg : ev ρ g = some (.func (.func gf) #[] lb.toArray)) (hgf : callOk P gf = true) (hi2 : inB n c2 = true)
    (h : ∀ fn tmps, Rep n { tmps := tmps, defers := [] } ρ → ∀ D W1, D = w.heap.size → W1 = (w.alloc (.deferred (some []))).alloc (.loop (loopRec fn tmps #[p1, p2] assign body D)) →
      CallsIn (Fw none) 0 P gf (.func (.yield (D + 1)) #[] #[] :: lb).toArray W1 (Ret fun _ W2 => ∃ r, W2.heap[D + 1]? = some (.loop r) ∧ W2.heap[D]? = some (.deferred (some [])) ∧
        ((r.state = .ready ∧ r.pending = none ∧ ∀ W3, W3 = W2.putObj (D + 1) (.loop { r with state := .exhausted }) → W P n ({ target := .collected D, args := #[] } :: ds) [.code c2] (fun e ρ w => e = .ret ∧ w.heap[D]? = some (.deferred (some [])) ∧ Φ .ret ρ (w.putObj D (.deferred none))) ρ W3) ∨
         (r.state = .done ∧ r.pending = some .ret ∧ ∀ W3, W3 = W2.putObj (D + 1) (.loop { r with state := .exhausted }) → W3.heap[D]? = some (.deferred (some [])) ∧ Φ .ret ρ (W3.putObj D (.deferred none)))))) :
    JW P n ds Φ c2 (.block id (.rangeFunc g #[p1, p2] assign body)) ρ w := by
  intro hi a hr hd
  refine (wpIn_wide (n := 0)).1 (wpIn_block (wpIn_rangeFunc fun fn hfn => ?_))
  have hrep : Rep n { tmps := a.tmps, defers := [] } ρ := ⟨hr.size, hr.slot⟩
  have hcall := h fn a.tmps hrep _ _ rfl rfl
  have hev := hr.ev hg
  refine ⟨_, _, _, { target := .fn (.func gf) lb.toArray, args := #[.func (.yield (w.heap.size + 1)) #[] #[]] }, (w.alloc (.deferred (some []))).alloc (.loop (loopRec fn a.tmps #[p1, p2] assign body w.heap.size)), gf, _, _, run_enterLoop_outer _ _ _ _ _, ?_, fun f' _ => trivial, ?_, fun h => (by cases h), CallsIn.mono hcall ?_⟩
  · simp only [resolve, hev]
    simp [go_sem]
  · have hcf := run_callFunc (P := P) (w := (w.alloc (.deferred (some []))).alloc (.loop (loopRec fn a.tmps #[p1, p2] assign body w.heap.size))) (args := (.func (.yield (w.heap.size + 1)) #[] #[] :: lb).toArray) hgf
    have e : (Value.func (.yield (w.heap.size + 1)) #[] #[] :: lb).toArray = #[.func (.yield (w.heap.size + 1)) #[] #[]] ++ lb.toArray := by simp
    rw [e] at hcf ⊢
    simpa [invoke] using hcf
  · rintro e W2 ⟨v, rfl, r, hl, hD, ⟨hs, hp, hw⟩ | ⟨hs, hp, hw⟩⟩
    · obtain ⟨st, pe, q1, q2, q3, q4, q5, q6⟩ := r
      simp only at hs hp
      subst hp
      refine ⟨none, _, run_endLoop (P := P) hl (by simp [hs]), ?_⟩
      show c2.wp P _ _ _
      have hw' := hw _ rfl hi2 { a with defers := { target := .collected w.heap.size, args := #[] } :: a.defers } ⟨hr.size, hr.slot⟩ (by rw [hd])
      refine wp_mono hw' ?_
      rintro e a3 w3 ⟨ρ3, hr3, hl3⟩
      cases e with
      | ret =>
        obtain ⟨w4, hm, _, hD3, hΦ⟩ := hl3
        exact ⟨ρ3, hr3, _, hm.trans (.cons hD3 (.nil _ _)), Qof.ret hΦ⟩
      | _ => exact absurd hl3.2.1 (by simp)
    · obtain ⟨st, pe, q1, q2, q3, q4, q5, q6⟩ := r
      simp only at hs hp
      subst hp
      refine ⟨some .ret, _, run_endLoop (P := P) hl (by simp [hs]), ?_⟩
      obtain ⟨hD3, hΦ⟩ := hw _ rfl
      refine wpIn_ret ?_
      exact ⟨ρ, ⟨hr.size, hr.slot⟩, _, by rw [hd]; exact .cons hD3 (.nil _ _), Qof.ret hΦ⟩
end
end Go.Proofs.Ytehjmakiljhjdaa.VW
/- Drawn regions: effects in any order, with reads of what stands. -/
namespace Go.Proofs.Ytehjmakiljhjdaa.VW
open Go Go.RowKit
section
variable {P : Program} [hT : Tab P] {n : Nat} {ds : List Deferred} {Φ : Post} {k : List It} {ρ : E} {w : World} {all : Array Oper} {l : List Oper} {md : Option (List Oper)} {F : World → Prop} {π : List Nat} {L : List Bool}
def OrdF (P : Program) (n : Nat) (ds : List Deferred) (all : Array Oper) (k : List It) (Φ : Post) (F : World → Prop) (π : List Nat) (L : List Bool) (ρ : E) (w : World) : Prop :=
  Region.noSelect all = true → (all.toList.all fun o => dOk n o.dst) = true → Cl .any all L.toArray → (∀ c ρ w, ¬ Φ (.panic c) ρ w) → F w → ∀ a, Rep n a ρ → a.defers = ds → wpAnyI P .any all (lift n ds (Qof P n ds Φ k)) (fun _ w => F w) π.length L.toArray a w
def freeB (all : Array Oper) (L : List Bool) (i : Nat) : Bool := Region.free .any all L.toArray i && (Region.ready .any all L.toArray).contains i
omit hT in
theorem OrdF.take {i d : Nat} {o : Oper} {v : Value} {c : Bool} (hp : freeB all L i = true) (ho : all[i]? = some o) (hd : o.dst = some d) (hg : gdB all ρ o.guard = some c) (hgc : c = true) (hev : ∀ w, F w → EV P n ρ w o v)
    (h : OrdF P n ds all k Φ F π (L.set i true) ((d, v) :: ρ) w) : OrdF P n ds all k Φ F (i :: π) L ρ w := by
  subst hgc
  intro hs hdo hcl hΦ hF a hr hds
  simp only [freeB, Bool.and_eq_true] at hp
  have hdn : dOk n o.dst = true := by
    rw [List.all_eq_true] at hdo
    exact hdo o (by rw [← Array.getElem?_toList] at ho; exact List.mem_of_getElem? ho)
  refine wpAnyI_take ho hs hp.1 hp.2 (fun c a w hq => by obtain ⟨ρ', _, _, hq⟩ := hq; exact absurd hq (pan_no hΦ k c ρ' w)) (fun _ _ => Iff.rfl) (G := F) (fun _ _ _ _ h => h) hcl (v := v) (.inl ⟨gdB_wanted hg hr, fun w' hw' => hev w' hw' a hr⟩) hF ?_
  have := h hs hdo (by rw [← List.setIfInBounds_toArray]; exact hcl.set (by simpa using hp.2)) hΦ hF (a.put o.dst v) (by have := hr.put hdn v; rw [hd] at this ⊢; exact this) (by rw [hd]; exact hds)
  rw [List.setIfInBounds_toArray]
  exact this
omit hT in
theorem OrdF.one_ {i : Nat} {o : Oper} (ho : all[i]? = some o) (hr : (Region.ready .any all L.toArray).contains i = true)
    (h : Ops none P n ds all (.lp (fun ρ1 w1 => F w1 ∧ OrdF P n ds all k Φ F π (L.set i true) ρ1 w1) :: k) Φ [o] ρ w) (hs : Region.noSelect all = true) (hdo : (all.toList.all fun o => dOk n o.dst) = true) (hcl : Cl .any all L.toArray) (hΦ : ∀ c ρ w, ¬ Φ (.panic c) ρ w) {a : Act} (har : Rep n a ρ) (hds : a.defers = ds) :
    wpOp P all (lift n ds (Qof P n ds Φ k)) i (fun a' w' => F w' ∧ wpAnyI P .any all (lift n ds (Qof P n ds Φ k)) (fun _ w => F w) π.length (L.toArray.setIfInBounds i true) a' w') a w := by
  have hdn : dOk n o.dst = true := by
    rw [List.all_eq_true] at hdo
    exact hdo o (by rw [← Array.getElem?_toList] at ho; exact List.mem_of_getElem? ho)
  have h' : wpList P all (lift n ds (Qof P n ds Φ (.lp (fun ρ1 w1 => F w1 ∧ OrdF P n ds all k Φ F π (L.set i true) ρ1 w1) :: k))) [o] a w := h (by simp [hdn]) a har hds
  have hcl' : Cl .any all (L.set i true).toArray := by rw [← List.setIfInBounds_toArray]; exact hcl.set (by simpa using hr)
  have hK : ∀ a' w', wpList P all (lift n ds (Qof P n ds Φ (.lp (fun ρ1 w1 => F w1 ∧ OrdF P n ds all k Φ F π (L.set i true) ρ1 w1) :: k))) [] a' w' → F w' ∧ wpAnyI P .any all (lift n ds (Qof P n ds Φ k)) (fun _ w => F w) π.length (L.toArray.setIfInBounds i true) a' w' := by
    rintro a' w' ⟨ρ1, hr1, hd1, hF1, hO⟩
    rw [List.setIfInBounds_toArray]
    exact ⟨hF1, hO hs hdo hcl' hΦ hF1 a' hr1 hd1⟩
  have hq : ∀ c a w, lift n ds (Qof P n ds Φ (.lp (fun ρ1 w1 => F w1 ∧ OrdF P n ds all k Φ F π (L.set i true) ρ1 w1) :: k)) (.panic c) a w → lift n ds (Qof P n ds Φ k) (.panic c) a w := fun _ _ _ h => h
  unfold wpList at h'
  unfold wpOp
  simp only [ho]
  split
  · rename_i hw
    rw [if_pos hw] at h'
    rcases h' with h' | ⟨h1, a', w', h2⟩
    · left
      unfold Oper.wp at h' ⊢
      generalize (execOp a.eval o).run P w = r at *
      cases r with
      | ok nx w' =>
        cases nx <;> simp only [Oper.upon] at h' ⊢
        case value v => exact hK _ _ h'
        case skip => exact hK _ _ h'
        case defer d => exact hK _ _ h'
        case enter f args =>
          refine h'.mono fun e w'' he => ?_
          cases e with
          | returned v => exact hK _ _ he
          | panicked ch => exact hq _ _ _ he
          | outgrown => obtain ⟨a, w, ho⟩ := he; exact ⟨a, w, ho⟩
        case row r args => exact h'.mono fun v w'' hv => hK _ _ hv
      | halt x w' =>
        cases x <;> simp only [Oper.upon] at h' ⊢
        exact hq _ _ _ h'
    · exact .inr ⟨h1, a', w', h2⟩
  · rename_i hw
    rw [if_neg hw] at h'
    exact hK _ _ h'
omit hT in
/-- Two effects, in either order. -/
theorem OrdF.both {q : Nat} {oi oj : Oper} (i j : Nat) (hr : (Region.ready .any all L.toArray == [i, j]) = true) (hoi : all[i]? = some oi) (hoj : all[j]? = some oj)
    (h1 : Ops none P n ds all (.lp (fun ρ1 w1 => F w1 ∧ OrdF P n ds all k Φ F π (L.set i true) ρ1 w1) :: k) Φ [oi] ρ w)
    (h2 : Ops none P n ds all (.lp (fun ρ1 w1 => F w1 ∧ OrdF P n ds all k Φ F π (L.set j true) ρ1 w1) :: k) Φ [oj] ρ w) : OrdF P n ds all k Φ F (q :: π) L ρ w := by
  have hr := eq_of_beq hr
  intro hs hdo hcl hΦ hF a har hds
  refine wpAnyI_all hr (by simp) fun q hq => ?_
  simp only [List.mem_cons, List.not_mem_nil, or_false] at hq
  rcases hq with rfl | rfl
  · exact OrdF.one_ hoi (by rw [hr]; simp) h1 hs hdo hcl hΦ har hds
  · exact OrdF.one_ hoj (by rw [hr]; simp) h2 hs hdo hcl hΦ har hds
omit hT in
theorem OrdF.one {q : Nat} {oi : Oper} (i : Nat) (hr : (Region.ready .any all L.toArray == [i]) = true) (hoi : all[i]? = some oi)
    (h1 : Ops none P n ds all (.lp (fun ρ1 w1 => F w1 ∧ OrdF P n ds all k Φ F π (L.set i true) ρ1 w1) :: k) Φ [oi] ρ w) : OrdF P n ds all k Φ F (q :: π) L ρ w := by
  have hr := eq_of_beq hr
  intro hs hdo hcl hΦ hF a har hds
  refine wpAnyI_all hr (by simp) fun q hq => ?_
  simp only [List.mem_singleton] at hq
  subst hq
  exact OrdF.one_ hoi (by rw [hr]; simp) h1 hs hdo hcl hΦ har hds
omit hT in
theorem OrdF.done (hr : (Region.ready .any all L.toArray).isEmpty = true) (h : W P n ds k Φ ρ w) : OrdF P n ds all k Φ F π L ρ w := fun _ _ _ _ _ a har hds => wpAnyI_done (by simpa using hr) ⟨ρ, har, LiftD.mk hds h⟩ _
omit hT in
theorem W.ordF {id : Nat} {ops : Array Oper} (F : World → Prop) (π : List Nat) (hm : P.follows .mixedOrders = true) (hs : Region.noSelect ops = true) (hlen : π.length = ops.size) (hΦ : ∀ c ρ w, ¬ Φ (.panic c) ρ w)
    (h : ∀ w', Kp (fun _ => False) w w' → w'.heap = w.heap → F w' ∧ OrdF P n ds ops k Φ F π (List.replicate π.length false) ρ w') : W P n ds (.code (.region id ops true) :: k) Φ ρ w := by
  intro hi a hr hd
  refine wp_region_I (S := fun _ w => F w) hm ?_
  obtain ⟨hF, h⟩ := h _ (kp_drew w) rfl
  have := h hs (by simpa [inB] using hi) (by rw [List.toArray_replicate]; exact Cl.start _) hΦ hF a hr hd
  rw [← hlen]
  rw [List.toArray_replicate] at this
  exact this
omit hT in
theorem Wi.ordF {r : Option Nat} {id : Nat} {ops : Array Oper} {Q : Post} (F : World → Prop) (π : List Nat) (hm : P.follows .mixedOrders = true) (hi : (ops.toList.all fun o => dOk n o.dst) = true) (hdf : noDefer ops.toList = true) (hs : Region.noSelect ops = true) (hlen : π.length = ops.size)
    (h : ∀ w', Kp (fun _ => False) w w' → w'.heap = w.heap → F w' ∧ OrdF P n ds ops [.lp (Q .normal)] (fun _ _ _ => False) F π (List.replicate π.length false) ρ w') : Wi r P n ds (.region id ops true) Q ρ w := by
  intro a hr hd
  refine wpIn_region_any hm ?_
  obtain ⟨hF, h⟩ := h _ (kp_drew w) rfl
  have := h hs hi (by rw [List.toArray_replicate]; exact Cl.start _) (fun _ _ _ h => h) hF a hr hd
  rw [List.toArray_replicate, hlen] at this
  exact anyIn (fun c a w h => by obtain ⟨_, _, h⟩ := h; exact h.2) (fun h => by obtain ⟨_, _, _, _, h⟩ := h; exact h.2) (fun a w h => by obtain ⟨ρ', h1, h2, h3⟩ := h; exact ⟨ρ', h1, h2, h3⟩) hdf _ _ _ _ (wpAny_of_I _ _ _ _ this)
theorem f_p {i d : Nat} {o : Oper} {c : Bool} {v : Value} (ho : all[i]? = some o := by exact rfl) (hd : o.dst = some d := by exact rfl) (hg : gdB all ρ o.guard = some c := by exact rfl) (hgc : c = true := by exact rfl) (hv : pureV ρ o.op = some v := by exact rfl) (hp : freeB all L i = true := by kernel_rfl)
    (kk : OrdF P n ds all k Φ F π (L.set i true) ((d, v) :: ρ) w) : OrdF P n ds all k Φ F (i :: π) L ρ w := OrdF.take hp ho hd hg hgc (fun _ _ => EV.pu hv) kk
theorem f_a {i d : Nat} {o : Oper} {c : Bool} {x : Int} (ho : all[i]? = some o := by exact rfl) (hd : o.dst = some d := by exact rfl) (hg : gdB all ρ o.guard = some c := by exact rfl) (hgc : c = true := by exact rfl) (hv : arV ρ o.op = some x := by exact rfl) (hb : -9223372036854775808 ≤ x ∧ x ≤ 9223372036854775807 := by omega) (hp : freeB all L i = true := by kernel_rfl)
    (kk : OrdF P n ds all k Φ F π (L.set i true) ((d, (.int .i64 x)) :: ρ) w) : OrdF P n ds all k Φ F (i :: π) L ρ w := OrdF.take hp ho hd hg hgc (fun _ _ => EV.ar hv hb) kk
theorem f_l {i d : Nat} {o : Oper} {c : Bool} {t e m c2 : Nat} {x : Operand} {A : Option Addr} (ho : all[i]? = some o := by exact rfl) (hd : o.dst = some d := by exact rfl) (hg : gdB all ρ o.guard = some c := by exact rfl) (hgc : c = true := by exact rfl) (h1 : o.op = .call { callee := .builtin .len, args := #[x], argTypes := #[t] } := by exact rfl) (h2 : tyD P t = some (.slice e) := by exact rfl) (h3 : ev ρ x = some (.slice A m c2) := by exact rfl) (hp : freeB all L i = true := by kernel_rfl)
    (kk : OrdF P n ds all k Φ F π (L.set i true) ((d, (.int .i64 m)) :: ρ) w) : OrdF P n ds all k Φ F (i :: π) L ρ w := OrdF.take hp ho hd hg hgc (fun _ _ => EV.len h1 h2 h3) kk
theorem f_B {i d t : Nat} {o : Oper} {x y : Operand} {c : Bool} {u v z0 z1 : Value} (h0 : all[i]? = some o := by exact rfl) (hd : o.dst = some d := by exact rfl) (hg : gdB all ρ o.guard = some c := by exact rfl) (hgc : c = true := by exact rfl) (ho : o.op = .build t #[(0, x), (1, y)] := by exact rfl)
    (ht : tyD P t = some (.struct [(0, 1), (1, 1)]) := by exact rfl) (hz : tyZ P t = some (.agg #[z0, z1]) := by exact rfl) (hx : ev ρ x = some u := by exact rfl) (hy : ev ρ y = some v := by exact rfl) (h1 : u.oneCell' = true := by exact rfl) (h2 : v.oneCell' = true := by exact rfl) (hp : freeB all L i = true := by kernel_rfl)
    (kk : OrdF P n ds all k Φ F π (L.set i true) ((d, .agg #[u, v]) :: ρ) w) : OrdF P n ds all k Φ F (i :: π) L ρ w := OrdF.take hp h0 hd hg hgc (fun _ _ => EV.bld2 ho ht hz hx hy h1 h2) kk
theorem f_S {i d j t t' : Nat} {o : Oper} {x y : Operand} {c : Bool} (h0 : all[i]? = some o := by exact rfl) (hd : o.dst = some d := by exact rfl) (hg : gdB all ρ o.guard = some c := by exact rfl) (hgc : c = true := by exact rfl) (ho : o.op = .binOp .shl t x y t' := by exact rfl) (hx : ev ρ x = some (.int .i64 1) := by exact rfl) (hy : ev ρ y = some (.int .i64 (j : Int)) := by exact rfl) (hj : j ≤ 60 := by omega) (hp : freeB all L i = true := by kernel_rfl)
    (kk : OrdF P n ds all k Φ F π (L.set i true) ((d, .int .i64 ((2 ^ j : Nat) : Int)) :: ρ) w) : OrdF P n ds all k Φ F (i :: π) L ρ w := OrdF.take hp h0 hd hg hgc (fun _ _ => EV.bsh ho hx hy (m_shl hj)) kk
theorem f_D {i d t b q t' : Nat} {o : Oper} {x : Operand} {cs : Array Value} {v : Value} {w0 : World} {c : Bool} (h1 : all[i]? = some o := by exact rfl) (ho : o.op = .load t x := by exact rfl) (hd : o.dst = some d := by exact rfl) (hg : gdB all ρ o.guard = some c := by exact rfl) (hgc : c = true := by exact rfl)
    (ht : tyAgg P t = some false := by exact rfl) (hx : ev ρ x = some (.pointer (some ⟨b, q, none⟩)) := by exact rfl) (hb : Blk w0 b cs t' := by assumption) (hF : ∀ w, F w → Below w0.heap.size w0 w := by first | exact fun _ h => h | (intro _ h; exact Below.via (by assumption) h)) (hi : nth cs.toList q = some v := by exact rfl) (hp : freeB all L i = true := by kernel_rfl)
    (kk : OrdF P n ds all k Φ F π (L.set i true) ((d, v) :: ρ) w) : OrdF P n ds all k Φ F (i :: π) L ρ w :=
  OrdF.take hp h1 hd hg hgc (fun w hFw => EV.ld ho ht hx ((hb.kp (Kp.of_below (S := fun _ => False) (hF w hFw)) (fun e => e)).cell (by rw [nth_eq, Array.getElem?_toList] at hi; exact hi))) kk
theorem f_K {i1 i2 d1 d2 t t' e : Nat} {o1 o2 : Oper} {x y : Operand} {v : Value} {i : Int} {xs : List Int} {w0 : World} {c1 c2 : Bool} (h1 : all[i1]? = some o1 := by exact rfl) (ho : o1.op = .indexAddr t x y := by exact rfl) (hd1 : o1.dst = some d1 := by exact rfl) (hg1 : gdB all ρ o1.guard = some c1 := by exact rfl) (hc1 : c1 = true := by exact rfl) (h2 : all[i2]? = some o2 := by exact rfl) (ho2 : o2.op = .load t' (.tmp d1) := by exact rfl) (hd2 : o2.dst = some d2 := by exact rfl) (hg2 : ∀ p, gdB all ((d1, .pointer p) :: ρ) o2.guard = some c2 := by exact fun _ => rfl) (hc2 : c2 = true := by exact rfl)
    (ht : tyD P t = some (.slice e) := by exact rfl) (hs : tyS P e = some 1 := by exact rfl) (ha : tyAgg P t' = some false := by exact rfl) (hx : ev ρ x = some v := by exact rfl) (hy : ev ρ y = some (.int .i64 i) := by exact rfl) (hsl : SlI w0 v xs := by first | assumption | exact OI.sl (by assumption)) (hF : ∀ w, F w → Below w0.heap.size w0 w := by first | exact fun _ h => h | (intro _ h; exact Below.via (by assumption) h)) (h0 : 0 ≤ i := by omega) (hi : i < xs.length := by omega) (hp1 : freeB all L i1 = true := by kernel_rfl) (hp2 : freeB all (L.set i1 true) i2 = true := by kernel_rfl)
    (kk : ∀ p, OrdF P n ds all k Φ F π ((L.set i1 true).set i2 true) ((d2, Value.int .i64 (xs.getD i.toNat 0)) :: (d1, p) :: ρ) w) : OrdF P n ds all k Φ F (i1 :: i2 :: π) L ρ w := by
  obtain ⟨hm, A, c, rfl, h⟩ := hsl
  obtain ⟨a, rfl, hc⟩ := h (by omega)
  refine OrdF.take hp1 h1 hd1 hg1 hc1 (fun w _ => EV.idx ho ht hs hx hy h0 hi) ?_
  rw [Nat.mul_one]
  refine OrdF.take hp2 h2 hd2 (hg2 _) hc2 (fun w' hw' => EV.ld ho2 ha (ev_top _ _ _) ?_) (kk _)
  have := cell_kp (Kp.of_below (S := fun _ => False) (hF w' hw')) (hc i.toNat (by omega)) (fun e => e)
  exact this
theorem f_r {i1 i2 d1 d2 t s' t' : Nat} {o1 o2 : Oper} {x y : Operand} {v : Value} {i : Int} {c : List (List Int)} {w0 : World} {c1 c2 : Bool} (e1 : all[i1]? = some o1 := by exact rfl) (h1 : o1.op = .indexAddr t x y := by exact rfl) (hd1 : o1.dst = some d1 := by exact rfl) (hg1 : gdB all ρ o1.guard = some c1 := by exact rfl) (hc1 : c1 = true := by exact rfl) (e2 : all[i2]? = some o2 := by exact rfl) (h2 : o2.op = .load t' (.tmp d1) := by exact rfl) (hd2 : o2.dst = some d2 := by exact rfl) (hg2 : ∀ p, gdB all ((d1, .pointer p) :: ρ) o2.guard = some c2 := by exact fun _ => rfl) (hc2 : c2 = true := by exact rfl)
    (ht : tyD P t = some (.slice s') := by exact rfl) (hs : tyS P s' = some 1 := by exact rfl) (ha : tyAgg P t' = some false := by exact rfl) (hx : ev ρ x = some v := by exact rfl) (hy : ev ρ y = some (.int .i64 i) := by exact rfl) (htr : RowsM w0 v c := by assumption) (hF : ∀ w, F w → Below w0.heap.size w0 w := by first | exact fun _ h => h | (intro _ h; exact Below.via (by assumption) h)) (h0 : 0 ≤ i := by omega) (hi : i < c.length := by omega) (hp1 : freeB all L i1 = true := by kernel_rfl) (hp2 : freeB all (L.set i1 true) i2 = true := by kernel_rfl)
    (kk : ∀ A m p, SlI w0 (.slice A (row c i).length m) (row c i) → OrdF P n ds all k Φ F π ((L.set i1 true).set i2 true) ((d2, .slice A (row c i).length m) :: (d1, p) :: ρ) w) : OrdF P n ds all k Φ F (i1 :: i2 :: π) L ρ w := by
  obtain ⟨a, m, A', m', rfl, hsl, hcell⟩ := htr.at_ h0 hi
  exact OrdF.take hp1 e1 hd1 hg1 hc1 (fun w _ => EV.idx h1 ht hs hx hy h0 hi) (OrdF.take hp2 e2 hd2 (hg2 _) hc2 (fun w hw => EV.ld h2 ha (ev_top _ _ _) (hcell w (hF w hw))) (kk _ _ _ hsl))
end
end Go.Proofs.Ytehjmakiljhjdaa.VW
