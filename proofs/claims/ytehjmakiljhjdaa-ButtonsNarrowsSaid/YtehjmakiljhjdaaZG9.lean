/- A part of the walk: what this seat's statements share. -/
import Derived.Test.YtehjmakiljhjdaaZG8
import Derived.Test.YtehjmakiljhjdaaZG5
set_option linter.unusedVariables false
set_option linter.unusedSimpArgs false
set_option linter.unusedSectionVars false
namespace Go.Proofs.Ytehjmakiljhjdaa
open Go Go.RowKit Go.Proofs.Ytehjmakiljhjdaa.VW
attribute [local irreducible] W Ops OrdA VW.Ord OrdX
/-- The best hole among the first ones; F: what the others cost then. -/
def stepJ (r : List Int) (t : Nat) (F : Nat → Int) : Nat → Int × Bool
  | 0 => (0, false)
  | j + 1 => if t.testBit j then stepJ r t F j else
      if !(stepJ r t F j).2 || decide (r.getD j 0 + F (t ||| 2 ^ j) < (stepJ r t F j).1) then (r.getD j 0 + F (t ||| 2 ^ j), true) else stepJ r t F j
/-- The smallest total of the last k buttons. -/
def restS (c : List (List Int)) (g : Int → Bool) : Nat → Nat → Int
  | 0, _ => 0
  | k + 1, t => if g ((c.length - (k + 1) : Nat) : Int) then restS c g k t else (stepJ (c.getD (c.length - (k + 1)) []) t (restS c g k) c.length).1
theorem stepJ_bd {r : List Int} {t : Nat} {F : Nat → Int} {B : Int} (h0 : 0 ≤ B) (hr : ∀ j, j < r.length → -1000 ≤ r.getD j 0 ∧ r.getD j 0 ≤ 1000) (hF : ∀ t, -B ≤ F t ∧ F t ≤ B) : ∀ j, j ≤ r.length → -(B + 1000) ≤ (stepJ r t F j).1 ∧ (stepJ r t F j).1 ≤ B + 1000
  | 0, _ => by simp [stepJ]; omega
  | j + 1, hj => by
    have h1 := stepJ_bd (t := t) h0 hr hF j (by omega)
    have h2 := hr j (by omega)
    have h3 := hF (t ||| 2 ^ j)
    simp only [stepJ]
    split
    · exact h1
    · split
      · simp only; omega
      · exact h1
theorem restS_bd {c : List (List Int)} {g : Int → Bool} (hC : Cst c) : ∀ k, k ≤ c.length → ∀ t, -(1000 * (k : Int)) ≤ restS c g k t ∧ restS c g k t ≤ 1000 * (k : Int)
  | 0, _, t => by simp [restS]
  | k + 1, hk, t => by
    have h1 := restS_bd (g := g) hC k (by omega)
    simp only [restS]
    split
    · have := h1 t; omega
    · have hl := hC.len (c.length - (k + 1)) (by omega)
      have := stepJ_bd (r := c.getD (c.length - (k + 1)) []) (t := t) (F := restS c g k) (B := 1000 * (k : Int)) (by omega) (fun j hj => hC.bd _ j (by omega) (by omega)) h1 c.length (by omega)
      omega
/-- What is known holds. -/
def Good (c : List (List Int)) (g : Int → Bool) (f : Nat × Nat → Option Int) : Prop := ∀ q v, f q = some v → q.1 ≤ c.length ∧ v = restS c g (c.length - q.1) q.2
theorem or_lt {t j n : Nat} (ht : t < 2 ^ n) (hj : j < n) : t ||| 2 ^ j < 2 ^ n := Nat.or_lt_two_pow ht (Nat.pow_lt_pow_right (by omega) hj)
theorem pow7 {n : Nat} (h : n ≤ 7) : 2 ^ n ≤ 128 := by
  calc 2 ^ n ≤ 2 ^ 7 := Nat.pow_le_pow_right (by omega) h
    _ = 128 := rfl
theorem kpb {b : Nat} {w w1 w2 : World} (h : Kp (fun i => i = b) w w1) (k : Kp (fun i => i = b) w1 w2) : Kp (fun i => i = b) w w2 := (h.trans k).mono (fun i _ e => by rcases e with e | e <;> exact e)
theorem kpn {b : Nat} {w w1 : World} (h : Kp (fun _ => False) w w1) : Kp (fun i => i = b) w w1 := h.mono (fun _ _ e => e.elim)
set_option maxHeartbeats 4000000 in
theorem rest_c {w0 : World} {cv ov : Value} {c : List (List Int)} {g : Int → Bool} {b : Nat} (hM : RowsM w0 cv c) (hC : Cst c) (hb0 : w0.heap.size ≤ b) : ∀ (k t : Nat) (w : World) (f : Nat × Nat → Option Int), k ≤ c.length → t < 2 ^ c.length → Below w0.heap.size w0 w → MapK Try.prog 82 encP w b f → Good c g f → OutM w ov g b →
    Calls Try.prog 62 #[cv, .map (some b), ov, .agg #[.int .i64 ((c.length - k : Nat) : Int), .int .i64 (t : Int)]] w (Ret fun r w' => r = .int .i64 (restS c g k t) ∧ Kp (fun i => i = b) w w' ∧ ∃ f', MapK Try.prog 82 encP w' b f' ∧ Good c g f' ∧ ∀ q : Nat × Nat, q.1 < c.length - k → f' q = f q) := by
  have hn7 := hC.n7
  have hp7 := pow7 hn7
  obtain ⟨Ac, cc, rfl⟩ := hM.sl
  intro k
  induction k with
  | zero =>
    intro t w f hk ht hb1 hm hG hO
    refine calls_W (vs := [_, _, _, _]) Try.func62 rfl (by kernel_rfl) rfl ?_
    (repeat (first | with_reducible refine W.seq ?_ | with_reducible refine Ops.nil ?_ | with_reducible refine W.region ?_ | refine z_p (kk := ?_) | refine z_a (kk := ?_) | refine z_y (kk := ?_) | refine z_n (kk := ?_) | refine z_u (kk := ?_) | with_reducible refine W.skip ?_ | with_reducible refine W.endb ?_ | with_reducible refine W.block ?_ | refine W.exit rfl ?_ | refine z_l (kk := ?_) | refine z_f (kk := ?_) | refine z_M (kk := ?_) | refine z_m (kk := ?_) | refine z_e (kk := ?_) | refine z_E (kk := ?_) | refine z_d (kk := ?_) | refine z_I (kk := fun _ => ?_) | refine z_J (kk := fun _ => ?_) | refine z_K (kk := fun _ => ?_) | refine z_L (kk := fun _ => ?_) | refine z_T (kk := ?_) | refine z_F (kk := ?_) | refine z_r (kk := fun _ _ _ _ => ?_) | refine z_D (kk := ?_) | refine z_B (kk := ?_) | refine z_S (kk := ?_) | refine z_Q (kk := ?_) | refine z_1 (kk := ?_) | refine z_O (kk := ?_) | refine z_2 (kk := ?_) | refine z_g (kk := ?_) | refine z_h (kk := ?_)))
    refine Ops.box rfl rfl rfl rfl (fun w1 r hr => ?_)
    have hblk : Blk w1 r #[.int .i64 ((c.length - 0 : Nat) : Int), .int .i64 (t : Int)] 82 := hr.at_
    (repeat (first | with_reducible refine W.seq ?_ | with_reducible refine Ops.nil ?_ | with_reducible refine W.region ?_ | refine z_p (kk := ?_) | refine z_a (kk := ?_) | refine z_y (kk := ?_) | refine z_n (kk := ?_) | refine z_u (kk := ?_) | with_reducible refine W.skip ?_ | with_reducible refine W.endb ?_ | with_reducible refine W.block ?_ | refine W.exit rfl ?_ | refine z_l (kk := ?_) | refine z_f (kk := ?_) | refine z_M (kk := ?_) | refine z_m (kk := ?_) | refine z_e (kk := ?_) | refine z_E (kk := ?_) | refine z_d (kk := ?_) | refine z_I (kk := fun _ => ?_) | refine z_J (kk := fun _ => ?_) | refine z_K (kk := fun _ => ?_) | refine z_L (kk := fun _ => ?_) | refine z_T (kk := ?_) | refine z_F (kk := ?_) | refine z_r (kk := fun _ _ _ _ => ?_) | refine z_D (kk := ?_) | refine z_B (kk := ?_) | refine z_S (kk := ?_) | refine z_Q (kk := ?_) | refine z_1 (kk := ?_) | refine z_O (kk := ?_) | refine z_2 (kk := ?_) | refine z_g (kk := ?_) | refine z_h (kk := ?_)))
    refine W.condT rfl (by first | rfl | assumption | (simp only [bnf] <;> omega) | (simp only [*, bnf]; done) | fail) ?_
    (repeat (first | with_reducible refine W.seq ?_ | with_reducible refine Ops.nil ?_ | with_reducible refine W.region ?_ | refine z_p (kk := ?_) | refine z_a (kk := ?_) | refine z_y (kk := ?_) | refine z_n (kk := ?_) | refine z_u (kk := ?_) | with_reducible refine W.skip ?_ | with_reducible refine W.endb ?_ | with_reducible refine W.block ?_ | refine W.exit rfl ?_ | refine z_l (kk := ?_) | refine z_f (kk := ?_) | refine z_M (kk := ?_) | refine z_m (kk := ?_) | refine z_e (kk := ?_) | refine z_E (kk := ?_) | refine z_d (kk := ?_) | refine z_I (kk := fun _ => ?_) | refine z_J (kk := fun _ => ?_) | refine z_K (kk := fun _ => ?_) | refine z_L (kk := fun _ => ?_) | refine z_T (kk := ?_) | refine z_F (kk := ?_) | refine z_r (kk := fun _ _ _ _ => ?_) | refine z_D (kk := ?_) | refine z_B (kk := ?_) | refine z_S (kk := ?_) | refine z_Q (kk := ?_) | refine z_1 (kk := ?_) | refine z_O (kk := ?_) | refine z_2 (kk := ?_) | refine z_g (kk := ?_) | refine z_h (kk := ?_)))
    exact W.fret rfl ⟨rfl, kpn hr.kp, f, hm.kp hr.kp (fun e => e), hG, fun q _ => rfl⟩
  | succ k ih =>
    intro t w f hk ht hb1 hm hG hO
    refine calls_W (vs := [_, _, _, _]) Try.func62 rfl (by kernel_rfl) rfl ?_
    (repeat (first | with_reducible refine W.seq ?_ | with_reducible refine Ops.nil ?_ | with_reducible refine W.region ?_ | refine z_p (kk := ?_) | refine z_a (kk := ?_) | refine z_y (kk := ?_) | refine z_n (kk := ?_) | refine z_u (kk := ?_) | with_reducible refine W.skip ?_ | with_reducible refine W.endb ?_ | with_reducible refine W.block ?_ | refine W.exit rfl ?_ | refine z_l (kk := ?_) | refine z_f (kk := ?_) | refine z_M (kk := ?_) | refine z_m (kk := ?_) | refine z_e (kk := ?_) | refine z_E (kk := ?_) | refine z_d (kk := ?_) | refine z_I (kk := fun _ => ?_) | refine z_J (kk := fun _ => ?_) | refine z_K (kk := fun _ => ?_) | refine z_L (kk := fun _ => ?_) | refine z_T (kk := ?_) | refine z_F (kk := ?_) | refine z_r (kk := fun _ _ _ _ => ?_) | refine z_D (kk := ?_) | refine z_B (kk := ?_) | refine z_S (kk := ?_) | refine z_Q (kk := ?_) | refine z_1 (kk := ?_) | refine z_O (kk := ?_) | refine z_2 (kk := ?_) | refine z_g (kk := ?_) | refine z_h (kk := ?_)))
    refine Ops.box rfl rfl rfl rfl (fun w1 r hr => ?_)
    have hblk : Blk w1 r #[.int .i64 ((c.length - (k + 1) : Nat) : Int), .int .i64 (t : Int)] 82 := hr.at_
    have hk1 : Kp (fun i => i = b) w w1 := kpn hr.kp
    have hb01 : Below w0.heap.size w0 w1 := Below.put hb1 hk1 (fun i e => by omega)
    have hO1 := hO.kpb hk1
    have hm1 := hm.kp hr.kp (fun e => e)
    have hrb' : ¬ r = b := by have := hm.lt; have := hr.r_eq; omega
    (repeat (first | with_reducible refine W.seq ?_ | with_reducible refine Ops.nil ?_ | with_reducible refine W.region ?_ | refine z_p (kk := ?_) | refine z_a (kk := ?_) | refine z_y (kk := ?_) | refine z_n (kk := ?_) | refine z_u (kk := ?_) | with_reducible refine W.skip ?_ | with_reducible refine W.endb ?_ | with_reducible refine W.block ?_ | refine W.exit rfl ?_ | refine z_l (kk := ?_) | refine z_f (kk := ?_) | refine z_M (kk := ?_) | refine z_m (kk := ?_) | refine z_e (kk := ?_) | refine z_E (kk := ?_) | refine z_d (kk := ?_) | refine z_I (kk := fun _ => ?_) | refine z_J (kk := fun _ => ?_) | refine z_K (kk := fun _ => ?_) | refine z_L (kk := fun _ => ?_) | refine z_T (kk := ?_) | refine z_F (kk := ?_) | refine z_r (kk := fun _ _ _ _ => ?_) | refine z_D (kk := ?_) | refine z_B (kk := ?_) | refine z_S (kk := ?_) | refine z_Q (kk := ?_) | refine z_1 (kk := ?_) | refine z_O (kk := ?_) | refine z_2 (kk := ?_) | refine z_g (kk := ?_) | refine z_h (kk := ?_)))
    refine W.condF rfl (by first | rfl | assumption | (simp only [bnf] <;> omega) | (simp only [*, bnf]; done) | fail) ?_
    (repeat (first | with_reducible refine W.seq ?_ | with_reducible refine Ops.nil ?_ | with_reducible refine W.region ?_ | refine z_p (kk := ?_) | refine z_a (kk := ?_) | refine z_y (kk := ?_) | refine z_n (kk := ?_) | refine z_u (kk := ?_) | with_reducible refine W.skip ?_ | with_reducible refine W.endb ?_ | with_reducible refine W.block ?_ | refine W.exit rfl ?_ | refine z_l (kk := ?_) | refine z_f (kk := ?_) | refine z_M (kk := ?_) | refine z_m (kk := ?_) | refine z_e (kk := ?_) | refine z_E (kk := ?_) | refine z_d (kk := ?_) | refine z_I (kk := fun _ => ?_) | refine z_J (kk := fun _ => ?_) | refine z_K (kk := fun _ => ?_) | refine z_L (kk := fun _ => ?_) | refine z_T (kk := ?_) | refine z_F (kk := ?_) | refine z_r (kk := fun _ _ _ _ => ?_) | refine z_D (kk := ?_) | refine z_B (kk := ?_) | refine z_S (kk := ?_) | refine z_Q (kk := ?_) | refine z_1 (kk := ?_) | refine z_O (kk := ?_) | refine z_2 (kk := ?_) | refine z_g (kk := ?_) | refine z_h (kk := ?_)))
    refine Ops.lookO rfl rfl rfl rfl rfl rfl rfl rfl hO1 ?_
    have ei : ((c.length - (k + 1) : Nat) : Int) + 1 = ((c.length - k : Nat) : Int) := by omega
    cases hg : g ((c.length - (k + 1) : Nat) : Int) with
    | true =>
      (repeat (first | with_reducible refine W.seq ?_ | with_reducible refine Ops.nil ?_ | with_reducible refine W.region ?_ | refine z_p (kk := ?_) | refine z_a (kk := ?_) | refine z_y (kk := ?_) | refine z_n (kk := ?_) | refine z_u (kk := ?_) | with_reducible refine W.skip ?_ | with_reducible refine W.endb ?_ | with_reducible refine W.block ?_ | refine W.exit rfl ?_ | refine z_l (kk := ?_) | refine z_f (kk := ?_) | refine z_M (kk := ?_) | refine z_m (kk := ?_) | refine z_e (kk := ?_) | refine z_E (kk := ?_) | refine z_d (kk := ?_) | refine z_I (kk := fun _ => ?_) | refine z_J (kk := fun _ => ?_) | refine z_K (kk := fun _ => ?_) | refine z_L (kk := fun _ => ?_) | refine z_T (kk := ?_) | refine z_F (kk := ?_) | refine z_r (kk := fun _ _ _ _ => ?_) | refine z_D (kk := ?_) | refine z_B (kk := ?_) | refine z_S (kk := ?_) | refine z_Q (kk := ?_) | refine z_1 (kk := ?_) | refine z_O (kk := ?_) | refine z_2 (kk := ?_) | refine z_g (kk := ?_) | refine z_h (kk := ?_)))
      refine W.condT rfl (by first | rfl | assumption | (simp only [bnf] <;> omega) | (simp only [*, bnf]; done) | fail) ?_
      (repeat (first | with_reducible refine W.seq ?_ | with_reducible refine Ops.nil ?_ | with_reducible refine W.region ?_ | refine z_p (kk := ?_) | refine z_a (kk := ?_) | refine z_y (kk := ?_) | refine z_n (kk := ?_) | refine z_u (kk := ?_) | with_reducible refine W.skip ?_ | with_reducible refine W.endb ?_ | with_reducible refine W.block ?_ | refine W.exit rfl ?_ | refine z_l (kk := ?_) | refine z_f (kk := ?_) | refine z_M (kk := ?_) | refine z_m (kk := ?_) | refine z_e (kk := ?_) | refine z_E (kk := ?_) | refine z_d (kk := ?_) | refine z_I (kk := fun _ => ?_) | refine z_J (kk := fun _ => ?_) | refine z_K (kk := fun _ => ?_) | refine z_L (kk := fun _ => ?_) | refine z_T (kk := ?_) | refine z_F (kk := ?_) | refine z_r (kk := fun _ _ _ _ => ?_) | refine z_D (kk := ?_) | refine z_B (kk := ?_) | refine z_S (kk := ?_) | refine z_Q (kk := ?_) | refine z_1 (kk := ?_) | refine z_O (kk := ?_) | refine z_2 (kk := ?_) | refine z_g (kk := ?_) | refine z_h (kk := ?_)))
      rw [ei]
      refine Ops.call rfl rfl rfl rfl rfl (ih t w1 f (by omega) ht hb01 hm1 hG hO1) (fun r2 w2 hR => ?_)
      obtain ⟨rfl, hk2, f', hm2, hG2, hf2⟩ := hR
      (repeat (first | with_reducible refine W.seq ?_ | with_reducible refine Ops.nil ?_ | with_reducible refine W.region ?_ | refine z_p (kk := ?_) | refine z_a (kk := ?_) | refine z_y (kk := ?_) | refine z_n (kk := ?_) | refine z_u (kk := ?_) | with_reducible refine W.skip ?_ | with_reducible refine W.endb ?_ | with_reducible refine W.block ?_ | refine W.exit rfl ?_ | refine z_l (kk := ?_) | refine z_f (kk := ?_) | refine z_M (kk := ?_) | refine z_m (kk := ?_) | refine z_e (kk := ?_) | refine z_E (kk := ?_) | refine z_d (kk := ?_) | refine z_I (kk := fun _ => ?_) | refine z_J (kk := fun _ => ?_) | refine z_K (kk := fun _ => ?_) | refine z_L (kk := fun _ => ?_) | refine z_T (kk := ?_) | refine z_F (kk := ?_) | refine z_r (kk := fun _ _ _ _ => ?_) | refine z_D (kk := ?_) | refine z_B (kk := ?_) | refine z_S (kk := ?_) | refine z_Q (kk := ?_) | refine z_1 (kk := ?_) | refine z_O (kk := ?_) | refine z_2 (kk := ?_) | refine z_g (kk := ?_) | refine z_h (kk := ?_)))
      exact W.fret rfl ⟨by rw [restS, if_pos hg]; rfl, kpb hk1 hk2, f', hm2, hG2, fun q hq => hf2 q (by omega)⟩
    | false =>
      have hkey : isKey Try.prog 82 (encP (c.length - (k + 1), t)) := encP_key (by simp only; omega) (by simp only; omega)
      have hrest : restS c g (k + 1) t = (stepJ (c.getD (c.length - (k + 1)) []) t (restS c g k) c.length).1 := by rw [restS, hg]; rfl
      have hnk : c.length - (c.length - (k + 1)) = k + 1 := by omega
      (repeat (first | with_reducible refine W.seq ?_ | with_reducible refine Ops.nil ?_ | with_reducible refine W.region ?_ | refine z_p (kk := ?_) | refine z_a (kk := ?_) | refine z_y (kk := ?_) | refine z_n (kk := ?_) | refine z_u (kk := ?_) | with_reducible refine W.skip ?_ | with_reducible refine W.endb ?_ | with_reducible refine W.block ?_ | refine W.exit rfl ?_ | refine z_l (kk := ?_) | refine z_f (kk := ?_) | refine z_M (kk := ?_) | refine z_m (kk := ?_) | refine z_e (kk := ?_) | refine z_E (kk := ?_) | refine z_d (kk := ?_) | refine z_I (kk := fun _ => ?_) | refine z_J (kk := fun _ => ?_) | refine z_K (kk := fun _ => ?_) | refine z_L (kk := fun _ => ?_) | refine z_T (kk := ?_) | refine z_F (kk := ?_) | refine z_r (kk := fun _ _ _ _ => ?_) | refine z_D (kk := ?_) | refine z_B (kk := ?_) | refine z_S (kk := ?_) | refine z_Q (kk := ?_) | refine z_1 (kk := ?_) | refine z_O (kk := ?_) | refine z_2 (kk := ?_) | refine z_g (kk := ?_) | refine z_h (kk := ?_)))
      refine W.condF rfl (by first | rfl | assumption | (simp only [bnf] <;> omega) | (simp only [*, bnf]; done) | fail) ?_
      (repeat (first | with_reducible refine W.seq ?_ | with_reducible refine Ops.nil ?_ | with_reducible refine W.region ?_ | refine z_p (kk := ?_) | refine z_a (kk := ?_) | refine z_y (kk := ?_) | refine z_n (kk := ?_) | refine z_u (kk := ?_) | with_reducible refine W.skip ?_ | with_reducible refine W.endb ?_ | with_reducible refine W.block ?_ | refine W.exit rfl ?_ | refine z_l (kk := ?_) | refine z_f (kk := ?_) | refine z_M (kk := ?_) | refine z_m (kk := ?_) | refine z_e (kk := ?_) | refine z_E (kk := ?_) | refine z_d (kk := ?_) | refine z_I (kk := fun _ => ?_) | refine z_J (kk := fun _ => ?_) | refine z_K (kk := fun _ => ?_) | refine z_L (kk := fun _ => ?_) | refine z_T (kk := ?_) | refine z_F (kk := ?_) | refine z_r (kk := fun _ _ _ _ => ?_) | refine z_D (kk := ?_) | refine z_B (kk := ?_) | refine z_S (kk := ?_) | refine z_Q (kk := ?_) | refine z_1 (kk := ?_) | refine z_O (kk := ?_) | refine z_2 (kk := ?_) | refine z_g (kk := ?_) | refine z_h (kk := ?_)))
      refine Ops.lookKk (p := (c.length - (k + 1), t)) keyLaw encP_inj rfl rfl rfl rfl rfl rfl rfl hkey hm1 ?_
      cases hfp : f (c.length - (k + 1), t) with
      | some v =>
        have hv := hG _ _ hfp
        simp only [hnk] at hv
        (repeat (first | with_reducible refine W.seq ?_ | with_reducible refine Ops.nil ?_ | with_reducible refine W.region ?_ | refine z_p (kk := ?_) | refine z_a (kk := ?_) | refine z_y (kk := ?_) | refine z_n (kk := ?_) | refine z_u (kk := ?_) | with_reducible refine W.skip ?_ | with_reducible refine W.endb ?_ | with_reducible refine W.block ?_ | refine W.exit rfl ?_ | refine z_l (kk := ?_) | refine z_f (kk := ?_) | refine z_M (kk := ?_) | refine z_m (kk := ?_) | refine z_e (kk := ?_) | refine z_E (kk := ?_) | refine z_d (kk := ?_) | refine z_I (kk := fun _ => ?_) | refine z_J (kk := fun _ => ?_) | refine z_K (kk := fun _ => ?_) | refine z_L (kk := fun _ => ?_) | refine z_T (kk := ?_) | refine z_F (kk := ?_) | refine z_r (kk := fun _ _ _ _ => ?_) | refine z_D (kk := ?_) | refine z_B (kk := ?_) | refine z_S (kk := ?_) | refine z_Q (kk := ?_) | refine z_1 (kk := ?_) | refine z_O (kk := ?_) | refine z_2 (kk := ?_) | refine z_g (kk := ?_) | refine z_h (kk := ?_)))
        refine W.condF rfl (by first | rfl | assumption | (simp only [bnf] <;> omega) | (simp only [*, bnf]; done) | fail) ?_
        (repeat (first | with_reducible refine W.seq ?_ | with_reducible refine Ops.nil ?_ | with_reducible refine W.region ?_ | refine z_p (kk := ?_) | refine z_a (kk := ?_) | refine z_y (kk := ?_) | refine z_n (kk := ?_) | refine z_u (kk := ?_) | with_reducible refine W.skip ?_ | with_reducible refine W.endb ?_ | with_reducible refine W.block ?_ | refine W.exit rfl ?_ | refine z_l (kk := ?_) | refine z_f (kk := ?_) | refine z_M (kk := ?_) | refine z_m (kk := ?_) | refine z_e (kk := ?_) | refine z_E (kk := ?_) | refine z_d (kk := ?_) | refine z_I (kk := fun _ => ?_) | refine z_J (kk := fun _ => ?_) | refine z_K (kk := fun _ => ?_) | refine z_L (kk := fun _ => ?_) | refine z_T (kk := ?_) | refine z_F (kk := ?_) | refine z_r (kk := fun _ _ _ _ => ?_) | refine z_D (kk := ?_) | refine z_B (kk := ?_) | refine z_S (kk := ?_) | refine z_Q (kk := ?_) | refine z_1 (kk := ?_) | refine z_O (kk := ?_) | refine z_2 (kk := ?_) | refine z_g (kk := ?_) | refine z_h (kk := ?_)))
        refine Ops.lookK (p := (c.length - (k + 1), t)) keyLaw encP_inj rfl rfl rfl rfl rfl rfl rfl hkey hm1 ?_
        (repeat (first | with_reducible refine W.seq ?_ | with_reducible refine Ops.nil ?_ | with_reducible refine W.region ?_ | refine z_p (kk := ?_) | refine z_a (kk := ?_) | refine z_y (kk := ?_) | refine z_n (kk := ?_) | refine z_u (kk := ?_) | with_reducible refine W.skip ?_ | with_reducible refine W.endb ?_ | with_reducible refine W.block ?_ | refine W.exit rfl ?_ | refine z_l (kk := ?_) | refine z_f (kk := ?_) | refine z_M (kk := ?_) | refine z_m (kk := ?_) | refine z_e (kk := ?_) | refine z_E (kk := ?_) | refine z_d (kk := ?_) | refine z_I (kk := fun _ => ?_) | refine z_J (kk := fun _ => ?_) | refine z_K (kk := fun _ => ?_) | refine z_L (kk := fun _ => ?_) | refine z_T (kk := ?_) | refine z_F (kk := ?_) | refine z_r (kk := fun _ _ _ _ => ?_) | refine z_D (kk := ?_) | refine z_B (kk := ?_) | refine z_S (kk := ?_) | refine z_Q (kk := ?_) | refine z_1 (kk := ?_) | refine z_O (kk := ?_) | refine z_2 (kk := ?_) | refine z_g (kk := ?_) | refine z_h (kk := ?_)))
        exact W.fret rfl ⟨by rw [hfp, hv.2]; rfl, hk1, f, hm1, hG, fun q hq => rfl⟩
      | none =>
        have hrow : row c ((c.length - (k + 1) : Nat) : Int) = c.getD (c.length - (k + 1)) [] := by simp [row]
        have hcl := hC.len (c.length - (k + 1)) (by omega)
        rw [← hrow] at hcl hrest
        have hrb : ∀ j, j < (row c ((c.length - (k + 1) : Nat) : Int)).length → -1000 ≤ (row c ((c.length - (k + 1) : Nat) : Int)).getD j 0 ∧ (row c ((c.length - (k + 1) : Nat) : Int)).getD j 0 ≤ 1000 := fun j hj => by rw [hrow]; exact hC.bd _ j (by omega) (by omega)
        have hbd1 := restS_bd (g := g) hC k (by omega)
        have hbd2 := fun j hj => stepJ_bd (t := t) (by omega) hrb hbd1 j hj
        (repeat (first | with_reducible refine W.seq ?_ | with_reducible refine Ops.nil ?_ | with_reducible refine W.region ?_ | refine z_p (kk := ?_) | refine z_a (kk := ?_) | refine z_y (kk := ?_) | refine z_n (kk := ?_) | refine z_u (kk := ?_) | with_reducible refine W.skip ?_ | with_reducible refine W.endb ?_ | with_reducible refine W.block ?_ | refine W.exit rfl ?_ | refine z_l (kk := ?_) | refine z_f (kk := ?_) | refine z_M (kk := ?_) | refine z_m (kk := ?_) | refine z_e (kk := ?_) | refine z_E (kk := ?_) | refine z_d (kk := ?_) | refine z_I (kk := fun _ => ?_) | refine z_J (kk := fun _ => ?_) | refine z_K (kk := fun _ => ?_) | refine z_L (kk := fun _ => ?_) | refine z_T (kk := ?_) | refine z_F (kk := ?_) | refine z_r (kk := fun _ _ _ _ => ?_) | refine z_D (kk := ?_) | refine z_B (kk := ?_) | refine z_S (kk := ?_) | refine z_Q (kk := ?_) | refine z_1 (kk := ?_) | refine z_O (kk := ?_) | refine z_2 (kk := ?_) | refine z_g (kk := ?_) | refine z_h (kk := ?_)))
        refine W.condT rfl (by first | rfl | assumption | (simp only [bnf] <;> omega) | (simp only [*, bnf]; done) | fail) ?_
        (repeat (first | with_reducible refine W.seq ?_ | with_reducible refine Ops.nil ?_ | with_reducible refine W.region ?_ | refine z_p (kk := ?_) | refine z_a (kk := ?_) | refine z_y (kk := ?_) | refine z_n (kk := ?_) | refine z_u (kk := ?_) | with_reducible refine W.skip ?_ | with_reducible refine W.endb ?_ | with_reducible refine W.block ?_ | refine W.exit rfl ?_ | refine z_l (kk := ?_) | refine z_f (kk := ?_) | refine z_M (kk := ?_) | refine z_m (kk := ?_) | refine z_e (kk := ?_) | refine z_E (kk := ?_) | refine z_d (kk := ?_) | refine z_I (kk := fun _ => ?_) | refine z_J (kk := fun _ => ?_) | refine z_K (kk := fun _ => ?_) | refine z_L (kk := fun _ => ?_) | refine z_T (kk := ?_) | refine z_F (kk := ?_) | refine z_r (kk := fun _ _ _ _ => ?_) | refine z_D (kk := ?_) | refine z_B (kk := ?_) | refine z_S (kk := ?_) | refine z_Q (kk := ?_) | refine z_1 (kk := ?_) | refine z_O (kk := ?_) | refine z_2 (kk := ?_) | refine z_g (kk := ?_) | refine z_h (kk := ?_)))
        rename_i A m p hsl
        refine W.loop (fun mm ρ w2 => ∃ (j : Nat) (best : Int) (found : Bool) (f2 : Nat × Nat → Option Int), mm = c.length - j ∧ j ≤ c.length ∧ stepJ (row c ((c.length - (k + 1) : Nat) : Int)) t (restS c g k) j = (best, found) ∧ ρ = [(0, .slice Ac c.length cc), (1, .map (some b)), (2, ov), (7, .pointer (some ⟨r, 0, none⟩)), (11, .int .i64 best), (12, .bool found), (47, .slice A (row c ((c.length - (k + 1) : Nat) : Int)).length m), (48, .int .i64 (row c ((c.length - (k + 1) : Nat) : Int)).length), (49, .int .i64 j)] ∧ Kp (fun i => i = b) w w2 ∧ Blk w2 r #[.int .i64 ((c.length - (k + 1) : Nat) : Int), .int .i64 (t : Int)] 82 ∧ MapK Try.prog 82 encP w2 b f2 ∧ Good c g f2 ∧ OutM w2 ov g b ∧ ∀ q : Nat × Nat, q.1 < c.length - k → f2 q = f q)
          ⟨_, _, ⟨0, 0, false, f, rfl, Nat.zero_le _, rfl, rfl, hk1, hblk, hm1, hG, hO1, fun q _ => rfl⟩, (by repeat (first | exact trivial | refine And.intro rfl ?_))⟩ ?_
        rintro mm ρ w2 ⟨j, best, found, f2, rfl, hj, hst, rfl, hk2, hblk2, hm2, hG2, hO2, hf2⟩
        have hb02 : Below w0.heap.size w0 w2 := Below.put hb1 hk2 (fun i e => by omega)
        have hbest := hbd2 j (by omega)
        rw [hst] at hbest
        simp only at hbest
        (repeat (first | with_reducible refine W.seq ?_ | with_reducible refine Ops.nil ?_ | with_reducible refine W.region ?_ | refine z_p (kk := ?_) | refine z_a (kk := ?_) | refine z_y (kk := ?_) | refine z_n (kk := ?_) | refine z_u (kk := ?_) | with_reducible refine W.skip ?_ | with_reducible refine W.endb ?_ | with_reducible refine W.block ?_ | refine W.exit rfl ?_ | refine z_l (kk := ?_) | refine z_f (kk := ?_) | refine z_M (kk := ?_) | refine z_m (kk := ?_) | refine z_e (kk := ?_) | refine z_E (kk := ?_) | refine z_d (kk := ?_) | refine z_I (kk := fun _ => ?_) | refine z_J (kk := fun _ => ?_) | refine z_K (kk := fun _ => ?_) | refine z_L (kk := fun _ => ?_) | refine z_T (kk := ?_) | refine z_F (kk := ?_) | refine z_r (kk := fun _ _ _ _ => ?_) | refine z_D (kk := ?_) | refine z_B (kk := ?_) | refine z_S (kk := ?_) | refine z_Q (kk := ?_) | refine z_1 (kk := ?_) | refine z_O (kk := ?_) | refine z_2 (kk := ?_) | refine z_g (kk := ?_) | refine z_h (kk := ?_)))
        (first | refine W.condD rfl (fun hc => ?_) (fun hc => ?_) | refine W.condE rfl (fun hc => ?_) (fun hc => ?_) | refine W.condN rfl (fun hc => ?_) (fun hc => ?_) | refine W.cond rfl (fun hc => ?_) (fun hc => ?_))
        · have hjl : j < c.length := by omega
          have hdiv : t / 2 ^ j ≤ t := Nat.div_le_self _ _
          (repeat (first | with_reducible refine W.seq ?_ | with_reducible refine Ops.nil ?_ | with_reducible refine W.region ?_ | refine z_p (kk := ?_) | refine z_a (kk := ?_) | refine z_y (kk := ?_) | refine z_n (kk := ?_) | refine z_u (kk := ?_) | with_reducible refine W.skip ?_ | with_reducible refine W.endb ?_ | with_reducible refine W.block ?_ | refine W.exit rfl ?_ | refine z_l (kk := ?_) | refine z_f (kk := ?_) | refine z_M (kk := ?_) | refine z_m (kk := ?_) | refine z_e (kk := ?_) | refine z_E (kk := ?_) | refine z_d (kk := ?_) | refine z_I (kk := fun _ => ?_) | refine z_J (kk := fun _ => ?_) | refine z_K (kk := fun _ => ?_) | refine z_L (kk := fun _ => ?_) | refine z_T (kk := ?_) | refine z_F (kk := ?_) | refine z_r (kk := fun _ _ _ _ => ?_) | refine z_D (kk := ?_) | refine z_B (kk := ?_) | refine z_S (kk := ?_) | refine z_Q (kk := ?_) | refine z_1 (kk := ?_) | refine z_O (kk := ?_) | refine z_2 (kk := ?_) | refine z_g (kk := ?_) | refine z_h (kk := ?_)))
          by_cases hbit : t.testBit j = true
          · have hstep : stepJ (row c ((c.length - (k + 1) : Nat) : Int)) t (restS c g k) (j + 1) = (best, found) := by rw [stepJ, if_pos hbit, hst]
            refine W.condT rfl (by rw [bit_iff]; exact hbit) ?_
            (repeat (first | with_reducible refine W.seq ?_ | with_reducible refine Ops.nil ?_ | with_reducible refine W.region ?_ | refine z_p (kk := ?_) | refine z_a (kk := ?_) | refine z_y (kk := ?_) | refine z_n (kk := ?_) | refine z_u (kk := ?_) | with_reducible refine W.skip ?_ | with_reducible refine W.endb ?_ | with_reducible refine W.block ?_ | refine W.exit rfl ?_ | refine z_l (kk := ?_) | refine z_f (kk := ?_) | refine z_M (kk := ?_) | refine z_m (kk := ?_) | refine z_e (kk := ?_) | refine z_E (kk := ?_) | refine z_d (kk := ?_) | refine z_I (kk := fun _ => ?_) | refine z_J (kk := fun _ => ?_) | refine z_K (kk := fun _ => ?_) | refine z_L (kk := fun _ => ?_) | refine z_T (kk := ?_) | refine z_F (kk := ?_) | refine z_r (kk := fun _ _ _ _ => ?_) | refine z_D (kk := ?_) | refine z_B (kk := ?_) | refine z_S (kk := ?_) | refine z_Q (kk := ?_) | refine z_1 (kk := ?_) | refine z_O (kk := ?_) | refine z_2 (kk := ?_) | refine z_g (kk := ?_) | refine z_h (kk := ?_)))
            exact W.endl ⟨_, _, ⟨⟨j + 1, best, found, f2, rfl, by omega, hstep, rfl, hk2, hblk2, hm2, hG2, hO2, hf2⟩, by omega⟩, (by repeat (first | exact trivial | refine And.intro rfl ?_))⟩
          · have hstep : stepJ (row c ((c.length - (k + 1) : Nat) : Int)) t (restS c g k) (j + 1) = if !found || decide ((row c ((c.length - (k + 1) : Nat) : Int)).getD j 0 + restS c g k (t ||| 2 ^ j) < best) then ((row c ((c.length - (k + 1) : Nat) : Int)).getD j 0 + restS c g k (t ||| 2 ^ j), true) else (best, found) := by rw [stepJ, if_neg hbit, hst]
            refine W.condF rfl (by rw [bit_iff]; simpa using hbit) ?_
            have hj2 : 2 ^ j < 2 ^ c.length := Nat.pow_lt_pow_right (by omega) hjl
            (repeat (first | with_reducible refine W.seq ?_ | with_reducible refine Ops.nil ?_ | with_reducible refine W.region ?_ | refine z_p (kk := ?_) | refine z_a (kk := ?_) | refine z_y (kk := ?_) | refine z_n (kk := ?_) | refine z_u (kk := ?_) | with_reducible refine W.skip ?_ | with_reducible refine W.endb ?_ | with_reducible refine W.block ?_ | refine W.exit rfl ?_ | refine z_l (kk := ?_) | refine z_f (kk := ?_) | refine z_M (kk := ?_) | refine z_m (kk := ?_) | refine z_e (kk := ?_) | refine z_E (kk := ?_) | refine z_d (kk := ?_) | refine z_I (kk := fun _ => ?_) | refine z_J (kk := fun _ => ?_) | refine z_K (kk := fun _ => ?_) | refine z_L (kk := fun _ => ?_) | refine z_T (kk := ?_) | refine z_F (kk := ?_) | refine z_r (kk := fun _ _ _ _ => ?_) | refine z_D (kk := ?_) | refine z_B (kk := ?_) | refine z_S (kk := ?_) | refine z_Q (kk := ?_) | refine z_1 (kk := ?_) | refine z_O (kk := ?_) | refine z_2 (kk := ?_) | refine z_g (kk := ?_) | refine z_h (kk := ?_)))
            refine W.ordA 13 [(0, 1), (1, 1), (2, 1), (3, 1), (4, 1), (5, 2), (6, 1), (7, 1), (8, 2), (9, 1), (10, 1), (11, 1), (12, 1), (13, 0), (14, 1), (15, 1)] rfl (by kernel_rfl) rfl (by kernel_rfl) (fun _ _ _ h => h) ?_
            (repeat (first | refine x_p (kk := ?_) | refine x_n (kk := ?_) | refine x_a (kk := ?_) | refine x_l (kk := ?_) | refine x_M (kk := ?_) | refine x_m (kk := ?_) | refine x_e (kk := ?_) | refine x_E (kk := ?_) | refine x_T (kk := ?_) | refine x_F (kk := ?_) | refine x_I (kk := fun _ => ?_) | refine x_J (kk := fun _ => ?_) | refine x_K (kk := fun _ => ?_) | refine x_L (kk := fun _ => ?_) | refine x_r (kk := fun _ _ _ _ => ?_) | refine x_D (kk := ?_) | refine x_P (kk := ?_) | refine x_B (kk := ?_) | refine x_S (kk := ?_) | refine x_O (kk := ?_) | refine x_t (kk := ?_) | refine x_f (kk := ?_)))
            rw [ei]
            have hor : t ||| 2 ^ j < 2 ^ c.length := or_lt ht hjl
            have hrs := hbd1 (t ||| 2 ^ j)
            have hcj := hrb j (by omega)
            refine OrdA.eff rfl (fun w5 hb5 => Ops.call rfl rfl rfl rfl rfl (ih (t ||| 2 ^ j) w5 f2 (by omega) hor (Below.via hb02 hb5) (hm2.below hb5) hG2 (hO2.kp (Kp.of_below (S := fun _ => False) hb5) (fun _ _ e => e))) (fun r2 w6 hR => Ops.nil (W.endl ?_)))
            obtain ⟨rfl, hk6, f', hm6, hG6, hf6⟩ := hR
            have hk56 : Kp (fun i => i = b) w2 w6 := kpb (Kp.of_below hb5) hk6
            have hkw6 := kpb hk2 hk56
            have hO6 := hO2.kpb hk56
            have hblk6 := hblk2.kp hk56 hrb'
            have hf6' : ∀ q : Nat × Nat, q.1 < c.length - k → f' q = f q := fun q hq => by rw [hf6 q hq, hf2 q hq]
            (repeat (first | refine y_p (kk := ?_) | refine y_n (kk := ?_) | refine y_a (kk := ?_) | refine y_l (kk := ?_) | refine y_M (kk := ?_) | refine y_m (kk := ?_) | refine y_e (kk := ?_) | refine y_E (kk := ?_) | refine y_T (kk := ?_) | refine y_F (kk := ?_) | refine y_I (kk := fun _ => ?_) | refine y_J (kk := fun _ => ?_) | refine y_K (kk := fun _ => ?_) | refine y_L (kk := fun _ => ?_) | refine y_t (kk := ?_) | refine y_f (kk := ?_)))
            refine VW.Ord.nil ?_
            cases found with
            | false =>
              (repeat (first | with_reducible refine W.seq ?_ | with_reducible refine Ops.nil ?_ | with_reducible refine W.region ?_ | refine z_p (kk := ?_) | refine z_a (kk := ?_) | refine z_y (kk := ?_) | refine z_n (kk := ?_) | refine z_u (kk := ?_) | with_reducible refine W.skip ?_ | with_reducible refine W.endb ?_ | with_reducible refine W.block ?_ | refine W.exit rfl ?_ | refine z_l (kk := ?_) | refine z_f (kk := ?_) | refine z_M (kk := ?_) | refine z_m (kk := ?_) | refine z_e (kk := ?_) | refine z_E (kk := ?_) | refine z_d (kk := ?_) | refine z_I (kk := fun _ => ?_) | refine z_J (kk := fun _ => ?_) | refine z_K (kk := fun _ => ?_) | refine z_L (kk := fun _ => ?_) | refine z_T (kk := ?_) | refine z_F (kk := ?_) | refine z_r (kk := fun _ _ _ _ => ?_) | refine z_D (kk := ?_) | refine z_B (kk := ?_) | refine z_S (kk := ?_) | refine z_Q (kk := ?_) | refine z_1 (kk := ?_) | refine z_O (kk := ?_) | refine z_2 (kk := ?_) | refine z_g (kk := ?_) | refine z_h (kk := ?_)))
              refine W.condT rfl (by first | rfl | assumption | (simp only [bnf] <;> omega) | (simp only [*, bnf]; done) | fail) ?_
              (repeat (first | with_reducible refine W.seq ?_ | with_reducible refine Ops.nil ?_ | with_reducible refine W.region ?_ | refine z_p (kk := ?_) | refine z_a (kk := ?_) | refine z_y (kk := ?_) | refine z_n (kk := ?_) | refine z_u (kk := ?_) | with_reducible refine W.skip ?_ | with_reducible refine W.endb ?_ | with_reducible refine W.block ?_ | refine W.exit rfl ?_ | refine z_l (kk := ?_) | refine z_f (kk := ?_) | refine z_M (kk := ?_) | refine z_m (kk := ?_) | refine z_e (kk := ?_) | refine z_E (kk := ?_) | refine z_d (kk := ?_) | refine z_I (kk := fun _ => ?_) | refine z_J (kk := fun _ => ?_) | refine z_K (kk := fun _ => ?_) | refine z_L (kk := fun _ => ?_) | refine z_T (kk := ?_) | refine z_F (kk := ?_) | refine z_r (kk := fun _ _ _ _ => ?_) | refine z_D (kk := ?_) | refine z_B (kk := ?_) | refine z_S (kk := ?_) | refine z_Q (kk := ?_) | refine z_1 (kk := ?_) | refine z_O (kk := ?_) | refine z_2 (kk := ?_) | refine z_g (kk := ?_) | refine z_h (kk := ?_)))
              exact W.endl ⟨_, _, ⟨⟨j + 1, _, true, f', rfl, by omega, hstep, rfl, hkw6, hblk6, hm6, hG6, hO6, hf6'⟩, by omega⟩, (by repeat (first | exact trivial | refine And.intro rfl ?_))⟩
            | true =>
              by_cases hlt : (row c ((c.length - (k + 1) : Nat) : Int)).getD j 0 + restS c g k (t ||| 2 ^ j) < best
              · rw [decide_eq_true hlt] at hstep
                (repeat (first | with_reducible refine W.seq ?_ | with_reducible refine Ops.nil ?_ | with_reducible refine W.region ?_ | refine z_p (kk := ?_) | refine z_a (kk := ?_) | refine z_y (kk := ?_) | refine z_n (kk := ?_) | refine z_u (kk := ?_) | with_reducible refine W.skip ?_ | with_reducible refine W.endb ?_ | with_reducible refine W.block ?_ | refine W.exit rfl ?_ | refine z_l (kk := ?_) | refine z_f (kk := ?_) | refine z_M (kk := ?_) | refine z_m (kk := ?_) | refine z_e (kk := ?_) | refine z_E (kk := ?_) | refine z_d (kk := ?_) | refine z_I (kk := fun _ => ?_) | refine z_J (kk := fun _ => ?_) | refine z_K (kk := fun _ => ?_) | refine z_L (kk := fun _ => ?_) | refine z_T (kk := ?_) | refine z_F (kk := ?_) | refine z_r (kk := fun _ _ _ _ => ?_) | refine z_D (kk := ?_) | refine z_B (kk := ?_) | refine z_S (kk := ?_) | refine z_Q (kk := ?_) | refine z_1 (kk := ?_) | refine z_O (kk := ?_) | refine z_2 (kk := ?_) | refine z_g (kk := ?_) | refine z_h (kk := ?_)))
                refine W.condT rfl (by first | rfl | assumption | (simp only [bnf] <;> omega) | (simp only [*, bnf]; done) | fail) ?_
                (repeat (first | with_reducible refine W.seq ?_ | with_reducible refine Ops.nil ?_ | with_reducible refine W.region ?_ | refine z_p (kk := ?_) | refine z_a (kk := ?_) | refine z_y (kk := ?_) | refine z_n (kk := ?_) | refine z_u (kk := ?_) | with_reducible refine W.skip ?_ | with_reducible refine W.endb ?_ | with_reducible refine W.block ?_ | refine W.exit rfl ?_ | refine z_l (kk := ?_) | refine z_f (kk := ?_) | refine z_M (kk := ?_) | refine z_m (kk := ?_) | refine z_e (kk := ?_) | refine z_E (kk := ?_) | refine z_d (kk := ?_) | refine z_I (kk := fun _ => ?_) | refine z_J (kk := fun _ => ?_) | refine z_K (kk := fun _ => ?_) | refine z_L (kk := fun _ => ?_) | refine z_T (kk := ?_) | refine z_F (kk := ?_) | refine z_r (kk := fun _ _ _ _ => ?_) | refine z_D (kk := ?_) | refine z_B (kk := ?_) | refine z_S (kk := ?_) | refine z_Q (kk := ?_) | refine z_1 (kk := ?_) | refine z_O (kk := ?_) | refine z_2 (kk := ?_) | refine z_g (kk := ?_) | refine z_h (kk := ?_)))
                exact W.endl ⟨_, _, ⟨⟨j + 1, _, true, f', rfl, by omega, hstep, rfl, hkw6, hblk6, hm6, hG6, hO6, hf6'⟩, by omega⟩, (by repeat (first | exact trivial | refine And.intro rfl ?_))⟩
              · rw [decide_eq_false hlt] at hstep
                (repeat (first | with_reducible refine W.seq ?_ | with_reducible refine Ops.nil ?_ | with_reducible refine W.region ?_ | refine z_p (kk := ?_) | refine z_a (kk := ?_) | refine z_y (kk := ?_) | refine z_n (kk := ?_) | refine z_u (kk := ?_) | with_reducible refine W.skip ?_ | with_reducible refine W.endb ?_ | with_reducible refine W.block ?_ | refine W.exit rfl ?_ | refine z_l (kk := ?_) | refine z_f (kk := ?_) | refine z_M (kk := ?_) | refine z_m (kk := ?_) | refine z_e (kk := ?_) | refine z_E (kk := ?_) | refine z_d (kk := ?_) | refine z_I (kk := fun _ => ?_) | refine z_J (kk := fun _ => ?_) | refine z_K (kk := fun _ => ?_) | refine z_L (kk := fun _ => ?_) | refine z_T (kk := ?_) | refine z_F (kk := ?_) | refine z_r (kk := fun _ _ _ _ => ?_) | refine z_D (kk := ?_) | refine z_B (kk := ?_) | refine z_S (kk := ?_) | refine z_Q (kk := ?_) | refine z_1 (kk := ?_) | refine z_O (kk := ?_) | refine z_2 (kk := ?_) | refine z_g (kk := ?_) | refine z_h (kk := ?_)))
                refine W.condF rfl (by first | rfl | assumption | (simp only [bnf] <;> omega) | (simp only [*, bnf]; done) | fail) ?_
                (repeat (first | with_reducible refine W.seq ?_ | with_reducible refine Ops.nil ?_ | with_reducible refine W.region ?_ | refine z_p (kk := ?_) | refine z_a (kk := ?_) | refine z_y (kk := ?_) | refine z_n (kk := ?_) | refine z_u (kk := ?_) | with_reducible refine W.skip ?_ | with_reducible refine W.endb ?_ | with_reducible refine W.block ?_ | refine W.exit rfl ?_ | refine z_l (kk := ?_) | refine z_f (kk := ?_) | refine z_M (kk := ?_) | refine z_m (kk := ?_) | refine z_e (kk := ?_) | refine z_E (kk := ?_) | refine z_d (kk := ?_) | refine z_I (kk := fun _ => ?_) | refine z_J (kk := fun _ => ?_) | refine z_K (kk := fun _ => ?_) | refine z_L (kk := fun _ => ?_) | refine z_T (kk := ?_) | refine z_F (kk := ?_) | refine z_r (kk := fun _ _ _ _ => ?_) | refine z_D (kk := ?_) | refine z_B (kk := ?_) | refine z_S (kk := ?_) | refine z_Q (kk := ?_) | refine z_1 (kk := ?_) | refine z_O (kk := ?_) | refine z_2 (kk := ?_) | refine z_g (kk := ?_) | refine z_h (kk := ?_)))
                exact W.endl ⟨_, _, ⟨⟨j + 1, _, true, f', rfl, by omega, hstep, rfl, hkw6, hblk6, hm6, hG6, hO6, hf6'⟩, by omega⟩, (by repeat (first | exact trivial | refine And.intro rfl ?_))⟩
        · have hjl : j = c.length := by omega
          subst hjl
          rw [hst] at hrest
          simp only at hrest
          have hf0 : f2 (c.length - (k + 1), t) = none := by rw [hf2 _ (by simp only; omega), hfp]
          (repeat (first | with_reducible refine W.seq ?_ | with_reducible refine Ops.nil ?_ | with_reducible refine W.region ?_ | refine z_p (kk := ?_) | refine z_a (kk := ?_) | refine z_y (kk := ?_) | refine z_n (kk := ?_) | refine z_u (kk := ?_) | with_reducible refine W.skip ?_ | with_reducible refine W.endb ?_ | with_reducible refine W.block ?_ | refine W.exit rfl ?_ | refine z_l (kk := ?_) | refine z_f (kk := ?_) | refine z_M (kk := ?_) | refine z_m (kk := ?_) | refine z_e (kk := ?_) | refine z_E (kk := ?_) | refine z_d (kk := ?_) | refine z_I (kk := fun _ => ?_) | refine z_J (kk := fun _ => ?_) | refine z_K (kk := fun _ => ?_) | refine z_L (kk := fun _ => ?_) | refine z_T (kk := ?_) | refine z_F (kk := ?_) | refine z_r (kk := fun _ _ _ _ => ?_) | refine z_D (kk := ?_) | refine z_B (kk := ?_) | refine z_S (kk := ?_) | refine z_Q (kk := ?_) | refine z_1 (kk := ?_) | refine z_O (kk := ?_) | refine z_2 (kk := ?_) | refine z_g (kk := ?_) | refine z_h (kk := ?_)))
          refine Ops.putK (p := (c.length - (k + 1), t)) keyLaw encP_inj rfl rfl rfl rfl rfl rfl rfl hkey hf0 hm2 (fun w3 hm3 hk3 hs3 => ?_)
          have hblk3 := hblk2.kp hk3 hrb'
          (repeat (first | with_reducible refine W.seq ?_ | with_reducible refine Ops.nil ?_ | with_reducible refine W.region ?_ | refine z_p (kk := ?_) | refine z_a (kk := ?_) | refine z_y (kk := ?_) | refine z_n (kk := ?_) | refine z_u (kk := ?_) | with_reducible refine W.skip ?_ | with_reducible refine W.endb ?_ | with_reducible refine W.block ?_ | refine W.exit rfl ?_ | refine z_l (kk := ?_) | refine z_f (kk := ?_) | refine z_M (kk := ?_) | refine z_m (kk := ?_) | refine z_e (kk := ?_) | refine z_E (kk := ?_) | refine z_d (kk := ?_) | refine z_I (kk := fun _ => ?_) | refine z_J (kk := fun _ => ?_) | refine z_K (kk := fun _ => ?_) | refine z_L (kk := fun _ => ?_) | refine z_T (kk := ?_) | refine z_F (kk := ?_) | refine z_r (kk := fun _ _ _ _ => ?_) | refine z_D (kk := ?_) | refine z_B (kk := ?_) | refine z_S (kk := ?_) | refine z_Q (kk := ?_) | refine z_1 (kk := ?_) | refine z_O (kk := ?_) | refine z_2 (kk := ?_) | refine z_g (kk := ?_) | refine z_h (kk := ?_)))
          refine Ops.lookK (p := (c.length - (k + 1), t)) keyLaw encP_inj rfl rfl rfl rfl rfl rfl rfl hkey hm3 ?_
          (repeat (first | with_reducible refine W.seq ?_ | with_reducible refine Ops.nil ?_ | with_reducible refine W.region ?_ | refine z_p (kk := ?_) | refine z_a (kk := ?_) | refine z_y (kk := ?_) | refine z_n (kk := ?_) | refine z_u (kk := ?_) | with_reducible refine W.skip ?_ | with_reducible refine W.endb ?_ | with_reducible refine W.block ?_ | refine W.exit rfl ?_ | refine z_l (kk := ?_) | refine z_f (kk := ?_) | refine z_M (kk := ?_) | refine z_m (kk := ?_) | refine z_e (kk := ?_) | refine z_E (kk := ?_) | refine z_d (kk := ?_) | refine z_I (kk := fun _ => ?_) | refine z_J (kk := fun _ => ?_) | refine z_K (kk := fun _ => ?_) | refine z_L (kk := fun _ => ?_) | refine z_T (kk := ?_) | refine z_F (kk := ?_) | refine z_r (kk := fun _ _ _ _ => ?_) | refine z_D (kk := ?_) | refine z_B (kk := ?_) | refine z_S (kk := ?_) | refine z_Q (kk := ?_) | refine z_1 (kk := ?_) | refine z_O (kk := ?_) | refine z_2 (kk := ?_) | refine z_g (kk := ?_) | refine z_h (kk := ?_)))
          refine W.fret rfl ⟨?_, kpb hk2 hk3, _, hm3, fun q v hq => ?_, fun q hq => ?_⟩
          · rw [hrest]; simp; rfl
          · replace hq : (if q = (c.length - (k + 1), t) then some best else f2 q) = some v := hq
            by_cases e : q = (c.length - (k + 1), t)
            · rw [if_pos e] at hq
              subst e
              refine ⟨by simp only; omega, ?_⟩
              simp only [hnk]
              rw [hrest]
              exact (Option.some.inj hq).symm
            · rw [if_neg e] at hq
              exact hG2 q v hq
          · have e : ¬ q = (c.length - (k + 1), t) := fun e => by rw [e] at hq; simp only at hq; omega
            show (if q = (c.length - (k + 1), t) then some best else f2 q) = f q
            rw [if_neg e]
            exact hf2 q (by omega)
end Go.Proofs.Ytehjmakiljhjdaa
namespace Go.Proofs.Ytehjmakiljhjdaa
open Go Go.RowKit Go.Proofs.Ytehjmakiljhjdaa.VW
attribute [local irreducible] W Ops OrdA VW.Ord OrdX
theorem stepJ_spec {r : List Int} {t : Nat} {F : Nat → Int} : ∀ m, ((∃ j, j < m ∧ t.testBit j = false) → ∃ j, j < m ∧ t.testBit j = false ∧ stepJ r t F m = (r.getD j 0 + F (t ||| 2 ^ j), true)) ∧ (∀ j, j < m → t.testBit j = false → (stepJ r t F m).2 = true ∧ (stepJ r t F m).1 ≤ r.getD j 0 + F (t ||| 2 ^ j))
  | 0 => ⟨fun ⟨j, h, _⟩ => by omega, fun j h => by omega⟩
  | m + 1 => by
    obtain ⟨h1, h2⟩ := stepJ_spec (r := r) (t := t) (F := F) m
    cases hm : t.testBit m with
    | true =>
      simp only [stepJ, hm, if_true]
      refine ⟨fun ⟨j, hj, hb⟩ => ?_, fun j hj hb => ?_⟩
      · have : j < m := by rcases Nat.lt_or_ge j m with h | h; exact h; have : j = m := by omega
                           subst this; rw [hm] at hb; cases hb
        obtain ⟨q, hq, hqb, e⟩ := h1 ⟨j, this, hb⟩
        exact ⟨q, by omega, hqb, e⟩
      · have : j < m := by rcases Nat.lt_or_ge j m with h | h; exact h; have : j = m := by omega
                           subst this; rw [hm] at hb; cases hb
        exact h2 j this hb
    | false =>
      simp only [stepJ, hm, Bool.false_eq_true, if_false]
      split
      · rename_i hc
        refine ⟨fun _ => ⟨m, by omega, hm, rfl⟩, fun j hj hb => ⟨rfl, ?_⟩⟩
        by_cases e : j = m
        · subst e; exact Int.le_refl _
        · obtain ⟨h3, h4⟩ := h2 j (by omega) hb
          rw [h3] at hc
          simp only [Bool.not_true, Bool.false_or, decide_eq_true_eq] at hc
          show r.getD m 0 + F (t ||| 2 ^ m) ≤ _
          omega
      · rename_i hc
        simp only [Bool.or_eq_true, decide_eq_true_eq, not_or, Bool.not_eq_true', Bool.not_eq_true] at hc
        refine ⟨fun _ => ?_, fun j hj hb => ?_⟩
        · by_cases hex : ∃ j, j < m ∧ t.testBit j = false
          · obtain ⟨q, hq, hqb, e⟩ := h1 hex
            exact ⟨q, by omega, hqb, e⟩
          · exfalso
            have : ∀ q, q ≤ m → stepJ r t F q = (0, false) := by
              intro q
              induction q with
              | zero => intro _; rfl
              | succ q ih =>
                intro hq
                have : t.testBit q = true := by
                  cases hb : t.testBit q with
                  | true => rfl
                  | false => exact absurd ⟨q, by omega, hb⟩ hex
                simp only [stepJ, this, if_true]
                exact ih (by omega)
            rw [this m (Nat.le_refl _)] at hc
            simp at hc
        · by_cases e : j = m
          · subst e
            exact ⟨by simpa using hc.1, by omega⟩
          · exact h2 j (by omega) hb
def g0 : Int → Bool := fun _ => false
/-- Hole j is in a cheapest way on. -/
def hitB (c : List (List Int)) (k t j : Nat) : Bool := !t.testBit j && (c.getD (c.length - (k + 1)) []).getD j 0 + restS c g0 k (t ||| 2 ^ j) == restS c g0 (k + 1) t
/-- The first hit from j on, among the next m. -/
def findS (p : Nat → Bool) : Nat → Nat → Nat
  | 0, j => j
  | m + 1, j => if p j then j else findS p m (j + 1)
theorem findS_spec {p : Nat → Bool} : ∀ m j, (∀ q, j ≤ q → q < findS p m j → p q = false) ∧ j ≤ findS p m j ∧ findS p m j ≤ j + m ∧ (findS p m j < j + m → p (findS p m j) = true)
  | 0, j => by simp [findS]; omega
  | m + 1, j => by
    simp only [findS]
    split
    · rename_i h
      exact ⟨fun q h1 h2 => by omega, by omega, by omega, fun _ => h⟩
    · rename_i h
      obtain ⟨h1, h2, h3, h4⟩ := findS_spec (p := p) m (j + 1)
      refine ⟨fun q hq1 hq2 => ?_, by omega, by omega, fun h => h4 (by omega)⟩
      by_cases e : q = j
      · subst e; simpa using h
      · exact h1 q (by omega) hq2
theorem findS_eq {p : Nat → Bool} {m j : Nat} (hj : j < m) (hp : p j = true) (h : ∀ q, q < j → p q = false) : findS p m 0 = j := by
  obtain ⟨h1, h2, h3, h4⟩ := findS_spec (p := p) m 0
  rcases Nat.lt_trichotomy (findS p m 0) j with h5 | h5 | h5
  · have := h4 (by omega); rw [h _ h5] at this; cases this
  · exact h5
  · have := h1 j (by omega) h5; rw [hp] at this; cases this
/-- The first assignment of the last k buttons. -/
def firstS (c : List (List Int)) : Nat → Nat → List Int
  | 0, _ => []
  | k + 1, t => (findS (hitB c k t) c.length 0 : Int) :: firstS c k (t ||| 2 ^ findS (hitB c k t) c.length 0)
/-- How many of the first n bits are set. -/
def cnt (t : Nat) : Nat → Nat
  | 0 => 0
  | n + 1 => cnt t n + if t.testBit n then 1 else 0
theorem cnt_or (t j : Nat) : ∀ n, cnt (t ||| 2 ^ j) n ≤ cnt t n + if j < n then 1 else 0
  | 0 => by simp [cnt]
  | n + 1 => by
    have h := cnt_or t j n
    simp only [cnt, Nat.testBit_or, Nat.testBit_two_pow]
    by_cases e : j = n
    · subst e
      simp only [Nat.lt_irrefl, if_false, Nat.lt_succ_self, if_true] at h ⊢
      split <;> omega
    · simp only [e, decide_false, Bool.or_false]
      split <;> split at h <;> split <;> omega
theorem cnt_free {t : Nat} : ∀ n, cnt t n < n → ∃ j, j < n ∧ t.testBit j = false
  | 0, h => by simp [cnt] at h
  | n + 1, h => by
    cases hb : t.testBit n with
    | false => exact ⟨n, by omega, hb⟩
    | true =>
      simp only [cnt, hb, if_true] at h
      obtain ⟨j, hj, e⟩ := cnt_free (t := t) n (by omega)
      exact ⟨j, by omega, e⟩
theorem cnt_zero : ∀ n, cnt 0 n = 0
  | 0 => rfl
  | n + 1 => by simp [cnt, cnt_zero n]
theorem hit_ex {c : List (List Int)} {k t : Nat} (h : ∃ j, j < c.length ∧ t.testBit j = false) : ∃ j, j < c.length ∧ hitB c k t j = true := by
  obtain ⟨j, hj, hb, e⟩ := (stepJ_spec (r := c.getD (c.length - (k + 1)) []) (t := t) (F := restS c g0 k) c.length).1 h
  refine ⟨j, hj, ?_⟩
  simp only [hitB, hb, restS, g0, Bool.false_eq_true, if_false, Bool.not_false, Bool.true_and, beq_iff_eq]
  have := congrArg Prod.fst e
  exact this.symm
theorem or_self_iff {t j : Nat} : t = t ||| 2 ^ j ↔ t.testBit j = true := by
  constructor
  · intro h
    rw [h]
    simp [Nat.testBit_or, Nat.testBit_two_pow]
  · intro h
    apply Nat.eq_of_testBit_eq
    intro i
    rw [Nat.testBit_or, Nat.testBit_two_pow]
    by_cases e : j = i
    · subst e; simp [h]
    · simp [e]
def pairV (p : Nat × Nat) : Array Value := #[.int .i64 p.1, .int .i64 p.2]
set_option maxHeartbeats 4000000 in
theorem first_c {w : World} {cv : Value} {c : List (List Int)} (hM : RowsM w cv c) (hC : Cst c) : Calls Try.prog 61 #[cv] w (Ret fun r w' => OI 3 (Value.int .i64) w w' r (firstS c c.length 0)) := by
  have hn7 := hC.n7
  have hp7 := pow7 hn7
  obtain ⟨Ac, cc, rfl⟩ := hM.sl
  refine calls_W (vs := [_]) Try.func61 rfl (by kernel_rfl) rfl ?_
  (repeat (first | with_reducible refine W.seq ?_ | with_reducible refine Ops.nil ?_ | with_reducible refine W.region ?_ | refine z_p (kk := ?_) | refine z_a (kk := ?_) | refine z_y (kk := ?_) | refine z_n (kk := ?_) | refine z_u (kk := ?_) | with_reducible refine W.skip ?_ | with_reducible refine W.endb ?_ | with_reducible refine W.block ?_ | refine W.exit rfl ?_ | refine z_l (kk := ?_) | refine z_f (kk := ?_) | refine z_M (kk := ?_) | refine z_m (kk := ?_) | refine z_e (kk := ?_) | refine z_E (kk := ?_) | refine z_d (kk := ?_) | refine z_I (kk := fun _ => ?_) | refine z_J (kk := fun _ => ?_) | refine z_K (kk := fun _ => ?_) | refine z_L (kk := fun _ => ?_) | refine z_T (kk := ?_) | refine z_F (kk := ?_) | refine z_r (kk := fun _ _ _ _ => ?_) | refine z_D (kk := ?_) | refine z_B (kk := ?_) | refine z_S (kk := ?_) | refine z_Q (kk := ?_) | refine z_1 (kk := ?_) | refine z_O (kk := ?_) | refine z_2 (kk := ?_) | refine z_g (kk := ?_) | refine z_h (kk := ?_)))
  refine Ops.mkK (enc := encP) (kt := 82) rfl rfl rfl (fun w1 b hm1 hk1 hb1 hs1 => ?_)
  (repeat (first | with_reducible refine W.seq ?_ | with_reducible refine Ops.nil ?_ | with_reducible refine W.region ?_ | refine z_p (kk := ?_) | refine z_a (kk := ?_) | refine z_y (kk := ?_) | refine z_n (kk := ?_) | refine z_u (kk := ?_) | with_reducible refine W.skip ?_ | with_reducible refine W.endb ?_ | with_reducible refine W.block ?_ | refine W.exit rfl ?_ | refine z_l (kk := ?_) | refine z_f (kk := ?_) | refine z_M (kk := ?_) | refine z_m (kk := ?_) | refine z_e (kk := ?_) | refine z_E (kk := ?_) | refine z_d (kk := ?_) | refine z_I (kk := fun _ => ?_) | refine z_J (kk := fun _ => ?_) | refine z_K (kk := fun _ => ?_) | refine z_L (kk := fun _ => ?_) | refine z_T (kk := ?_) | refine z_F (kk := ?_) | refine z_r (kk := fun _ _ _ _ => ?_) | refine z_D (kk := ?_) | refine z_B (kk := ?_) | refine z_S (kk := ?_) | refine z_Q (kk := ?_) | refine z_1 (kk := ?_) | refine z_O (kk := ?_) | refine z_2 (kk := ?_) | refine z_g (kk := ?_) | refine z_h (kk := ?_)))
  refine Ops.bldG rfl rfl rfl rfl rfl rfl rfl ?_
  refine Ops.alloc rfl rfl rfl rfl (fun w2 x hx => ?_)
  refine Ops.st2 rfl rfl rfl rfl rfl rfl rfl rfl hx.at_ (fun w3 hu => ?_)
  (repeat (first | with_reducible refine W.seq ?_ | with_reducible refine Ops.nil ?_ | with_reducible refine W.region ?_ | refine z_p (kk := ?_) | refine z_a (kk := ?_) | refine z_y (kk := ?_) | refine z_n (kk := ?_) | refine z_u (kk := ?_) | with_reducible refine W.skip ?_ | with_reducible refine W.endb ?_ | with_reducible refine W.block ?_ | refine W.exit rfl ?_ | refine z_l (kk := ?_) | refine z_f (kk := ?_) | refine z_M (kk := ?_) | refine z_m (kk := ?_) | refine z_e (kk := ?_) | refine z_E (kk := ?_) | refine z_d (kk := ?_) | refine z_I (kk := fun _ => ?_) | refine z_J (kk := fun _ => ?_) | refine z_K (kk := fun _ => ?_) | refine z_L (kk := fun _ => ?_) | refine z_T (kk := ?_) | refine z_F (kk := ?_) | refine z_r (kk := fun _ _ _ _ => ?_) | refine z_D (kk := ?_) | refine z_B (kk := ?_) | refine z_S (kk := ?_) | refine z_Q (kk := ?_) | refine z_1 (kk := ?_) | refine z_O (kk := ?_) | refine z_2 (kk := ?_) | refine z_g (kk := ?_) | refine z_h (kk := ?_)))
  have hbel3 : Below w.heap.size w w3 := Below.put (Below.put (Below.put (Below.refl _ _) hk1 (fun _ e => e.elim)) hx.kp (fun _ e => e.elim)) hu.kp (fun i e => by have := hx.r_eq; have := hk1.size; omega)
  have hbx : ¬ x = b := by have := hx.r_eq; have := hm1.lt; omega
  have hxw : w.heap.size ≤ x := by have := hx.r_eq; have := hk1.size; omega
  refine W.loop (fun m ρ w4 => ∃ (k t : Nat) (ov : Value) (pre : List Int) (f : Nat × Nat → Option Int), m = k ∧ k ≤ c.length ∧ t < 2 ^ c.length ∧ cnt t c.length + k ≤ c.length ∧ pre ++ firstS c k t = firstS c c.length 0 ∧ pre.length + k = c.length ∧ ρ = [(0, .slice Ac c.length cc), (3, .map (some b)), (4, ov), (5, .pointer (some ⟨x, 0, none⟩))] ∧ OI 3 (Value.int .i64) w w4 ov pre ∧ Blk w4 x (pairV (c.length - k, t)) 82 ∧ MapK Try.prog 82 encP w4 b f ∧ Good c g0 f ∧ ov.ownBlock ≠ some x ∧ ov.ownBlock ≠ some b)
    ⟨_, _, ⟨c.length, 0, _, [], fun _ => none, rfl, Nat.le_refl _, Nat.two_pow_pos _, by rw [cnt_zero]; omega, rfl, by simp, rfl, OI.nil hbel3, ?_, (hm1.kp hx.kp (fun e => e)).kp hu.kp (fun e => hbx e.symm), (fun q v h => by cases h), by simp [Value.ownBlock], by simp [Value.ownBlock]⟩, (by repeat (first | exact trivial | refine And.intro rfl ?_))⟩ ?_
  · have := hu.blk
    rw [Nat.sub_self]
    exact this
  rintro k ρ w4 ⟨_, t, ov, pre, f, rfl, hk, ht, hcnt, hpre, hlen, rfl, hO, hblk, hm, hG, hne1, hne2⟩
  have hbel4 := hO.bel
  have hblk' : Blk w4 x #[.int .i64 ((c.length - k : Nat) : Int), .int .i64 (t : Int)] 82 := hblk
  (repeat (first | with_reducible refine W.seq ?_ | with_reducible refine Ops.nil ?_ | with_reducible refine W.region ?_ | refine z_p (kk := ?_) | refine z_a (kk := ?_) | refine z_y (kk := ?_) | refine z_n (kk := ?_) | refine z_u (kk := ?_) | with_reducible refine W.skip ?_ | with_reducible refine W.endb ?_ | with_reducible refine W.block ?_ | refine W.exit rfl ?_ | refine z_l (kk := ?_) | refine z_f (kk := ?_) | refine z_M (kk := ?_) | refine z_m (kk := ?_) | refine z_e (kk := ?_) | refine z_E (kk := ?_) | refine z_d (kk := ?_) | refine z_I (kk := fun _ => ?_) | refine z_J (kk := fun _ => ?_) | refine z_K (kk := fun _ => ?_) | refine z_L (kk := fun _ => ?_) | refine z_T (kk := ?_) | refine z_F (kk := ?_) | refine z_r (kk := fun _ _ _ _ => ?_) | refine z_D (kk := ?_) | refine z_B (kk := ?_) | refine z_S (kk := ?_) | refine z_Q (kk := ?_) | refine z_1 (kk := ?_) | refine z_O (kk := ?_) | refine z_2 (kk := ?_) | refine z_g (kk := ?_) | refine z_h (kk := ?_)))
  (first | refine W.condD rfl (fun hc => ?_) (fun hc => ?_) | refine W.condE rfl (fun hc => ?_) (fun hc => ?_) | refine W.condN rfl (fun hc => ?_) (fun hc => ?_) | refine W.cond rfl (fun hc => ?_) (fun hc => ?_))
  · obtain ⟨k, rfl⟩ : ∃ q, k = q + 1 := ⟨k - 1, by omega⟩
    (repeat (first | with_reducible refine W.seq ?_ | with_reducible refine Ops.nil ?_ | with_reducible refine W.region ?_ | refine z_p (kk := ?_) | refine z_a (kk := ?_) | refine z_y (kk := ?_) | refine z_n (kk := ?_) | refine z_u (kk := ?_) | with_reducible refine W.skip ?_ | with_reducible refine W.endb ?_ | with_reducible refine W.block ?_ | refine W.exit rfl ?_ | refine z_l (kk := ?_) | refine z_f (kk := ?_) | refine z_M (kk := ?_) | refine z_m (kk := ?_) | refine z_e (kk := ?_) | refine z_E (kk := ?_) | refine z_d (kk := ?_) | refine z_I (kk := fun _ => ?_) | refine z_J (kk := fun _ => ?_) | refine z_K (kk := fun _ => ?_) | refine z_L (kk := fun _ => ?_) | refine z_T (kk := ?_) | refine z_F (kk := ?_) | refine z_r (kk := fun _ _ _ _ => ?_) | refine z_D (kk := ?_) | refine z_B (kk := ?_) | refine z_S (kk := ?_) | refine z_Q (kk := ?_) | refine z_1 (kk := ?_) | refine z_O (kk := ?_) | refine z_2 (kk := ?_) | refine z_g (kk := ?_) | refine z_h (kk := ?_)))
    refine Ops.call rfl rfl rfl rfl rfl (rest_c hM hC (by omega) (k + 1) t w4 f hk ht hbel4 hm hG (.inl ⟨rfl, rfl⟩)) (fun r5 w5 hR => ?_)
    obtain ⟨rfl, hk5, f5, hm5, hG5, _⟩ := hR
    have hbel5 := Below.put hbel4 hk5 (fun i e => by omega)
    have hO5 := hO.kp hk5 (fun i e => ⟨by omega, by rw [e]; exact hne2⟩)
    have hblk5 := hblk'.kp hk5 hbx
    have hrow : row c ((c.length - (k + 1) : Nat) : Int) = c.getD (c.length - (k + 1)) [] := by simp [row]
    have hcl := hC.len (c.length - (k + 1)) (by omega)
    rw [← hrow] at hcl
    have hrb : ∀ j, j < (row c ((c.length - (k + 1) : Nat) : Int)).length → -1000 ≤ (row c ((c.length - (k + 1) : Nat) : Int)).getD j 0 ∧ (row c ((c.length - (k + 1) : Nat) : Int)).getD j 0 ≤ 1000 := fun j hj => by rw [hrow]; exact hC.bd _ j (by omega) (by omega)
    have hbd1 := restS_bd (g := g0) hC k (by omega)
    (repeat (first | with_reducible refine W.seq ?_ | with_reducible refine Ops.nil ?_ | with_reducible refine W.region ?_ | refine z_p (kk := ?_) | refine z_a (kk := ?_) | refine z_y (kk := ?_) | refine z_n (kk := ?_) | refine z_u (kk := ?_) | with_reducible refine W.skip ?_ | with_reducible refine W.endb ?_ | with_reducible refine W.block ?_ | refine W.exit rfl ?_ | refine z_l (kk := ?_) | refine z_f (kk := ?_) | refine z_M (kk := ?_) | refine z_m (kk := ?_) | refine z_e (kk := ?_) | refine z_E (kk := ?_) | refine z_d (kk := ?_) | refine z_I (kk := fun _ => ?_) | refine z_J (kk := fun _ => ?_) | refine z_K (kk := fun _ => ?_) | refine z_L (kk := fun _ => ?_) | refine z_T (kk := ?_) | refine z_F (kk := ?_) | refine z_r (kk := fun _ _ _ _ => ?_) | refine z_D (kk := ?_) | refine z_B (kk := ?_) | refine z_S (kk := ?_) | refine z_Q (kk := ?_) | refine z_1 (kk := ?_) | refine z_O (kk := ?_) | refine z_2 (kk := ?_) | refine z_g (kk := ?_) | refine z_h (kk := ?_)))
    rename_i A m p hsl
    refine W.loop (fun mm ρ w6 => ∃ (j : Nat) (f6 : Nat × Nat → Option Int), mm = c.length - j ∧ j ≤ c.length ∧ ρ = [(0, .slice Ac c.length cc), (3, .map (some b)), (4, ov), (5, .pointer (some ⟨x, 0, none⟩)), (6, .int .i64 (restS c g0 (k + 1) t)), (25, .slice A (row c ((c.length - (k + 1) : Nat) : Int)).length m), (26, .int .i64 (row c ((c.length - (k + 1) : Nat) : Int)).length), (27, .int .i64 j)] ∧ OI 3 (Value.int .i64) w w6 ov pre ∧ Blk w6 x #[.int .i64 ((c.length - (k + 1) : Nat) : Int), .int .i64 (t : Int)] 82 ∧ MapK Try.prog 82 encP w6 b f6 ∧ Good c g0 f6 ∧ ∀ q, q < j → hitB c k t q = false)
      ⟨_, _, ⟨0, f5, rfl, Nat.zero_le _, rfl, hO5, hblk5, hm5, hG5, fun q hq => by omega⟩, (by repeat (first | exact trivial | refine And.intro rfl ?_))⟩ ?_
    rintro mm ρ w6 ⟨j, f6, rfl, hj, rfl, hO6, hblk6, hm6, hG6, hno⟩
    have hbel6 := hO6.bel
    (repeat (first | with_reducible refine W.seq ?_ | with_reducible refine Ops.nil ?_ | with_reducible refine W.region ?_ | refine z_p (kk := ?_) | refine z_a (kk := ?_) | refine z_y (kk := ?_) | refine z_n (kk := ?_) | refine z_u (kk := ?_) | with_reducible refine W.skip ?_ | with_reducible refine W.endb ?_ | with_reducible refine W.block ?_ | refine W.exit rfl ?_ | refine z_l (kk := ?_) | refine z_f (kk := ?_) | refine z_M (kk := ?_) | refine z_m (kk := ?_) | refine z_e (kk := ?_) | refine z_E (kk := ?_) | refine z_d (kk := ?_) | refine z_I (kk := fun _ => ?_) | refine z_J (kk := fun _ => ?_) | refine z_K (kk := fun _ => ?_) | refine z_L (kk := fun _ => ?_) | refine z_T (kk := ?_) | refine z_F (kk := ?_) | refine z_r (kk := fun _ _ _ _ => ?_) | refine z_D (kk := ?_) | refine z_B (kk := ?_) | refine z_S (kk := ?_) | refine z_Q (kk := ?_) | refine z_1 (kk := ?_) | refine z_O (kk := ?_) | refine z_2 (kk := ?_) | refine z_g (kk := ?_) | refine z_h (kk := ?_)))
    (first | refine W.condD rfl (fun hc => ?_) (fun hc => ?_) | refine W.condE rfl (fun hc => ?_) (fun hc => ?_) | refine W.condN rfl (fun hc => ?_) (fun hc => ?_) | refine W.cond rfl (fun hc => ?_) (fun hc => ?_))
    · have hjl : j < c.length := by omega
      have hj2 : 2 ^ j < 2 ^ c.length := Nat.pow_lt_pow_right (by omega) hjl
      have ei : ((c.length - (k + 1) : Nat) : Int) + 1 = ((c.length - k : Nat) : Int) := by omega
      have hor : t ||| 2 ^ j < 2 ^ c.length := or_lt ht hjl
      have hrs := hbd1 (t ||| 2 ^ j)
      have hcj := hrb j (by omega)
      have hst := or_self_iff (t := t) (j := j)
      (repeat (first | with_reducible refine W.seq ?_ | with_reducible refine Ops.nil ?_ | with_reducible refine W.region ?_ | refine z_p (kk := ?_) | refine z_a (kk := ?_) | refine z_y (kk := ?_) | refine z_n (kk := ?_) | refine z_u (kk := ?_) | with_reducible refine W.skip ?_ | with_reducible refine W.endb ?_ | with_reducible refine W.block ?_ | refine W.exit rfl ?_ | refine z_l (kk := ?_) | refine z_f (kk := ?_) | refine z_M (kk := ?_) | refine z_m (kk := ?_) | refine z_e (kk := ?_) | refine z_E (kk := ?_) | refine z_d (kk := ?_) | refine z_I (kk := fun _ => ?_) | refine z_J (kk := fun _ => ?_) | refine z_K (kk := fun _ => ?_) | refine z_L (kk := fun _ => ?_) | refine z_T (kk := ?_) | refine z_F (kk := ?_) | refine z_r (kk := fun _ _ _ _ => ?_) | refine z_D (kk := ?_) | refine z_B (kk := ?_) | refine z_S (kk := ?_) | refine z_Q (kk := ?_) | refine z_1 (kk := ?_) | refine z_O (kk := ?_) | refine z_2 (kk := ?_) | refine z_g (kk := ?_) | refine z_h (kk := ?_)))
      refine W.ord (hm := rfl) 99 (fun w' => Below w6.heap.size w6 w') [(0, 1), (1, 2), (2, 1), (3, 1), (4, 2), (5, 1), (6, 1), (7, 1), (8, 1), (9, 0), (10, 0)] (by kernel_rfl) rfl (by kernel_rfl) (fun w7 k7 _ => ⟨Kp.below k7 (Nat.le_refl _) (fun _ _ e => e), ?_⟩)
      have hb7 : Below w6.heap.size w6 w7 := Kp.below k7 (Nat.le_refl _) (fun _ _ e => e)
      (repeat (first | refine y_p (kk := ?_) | refine y_n (kk := ?_) | refine y_a (kk := ?_) | refine y_l (kk := ?_) | refine y_M (kk := ?_) | refine y_m (kk := ?_) | refine y_e (kk := ?_) | refine y_E (kk := ?_) | refine y_T (kk := ?_) | refine y_F (kk := ?_) | refine y_I (kk := fun _ => ?_) | refine y_J (kk := fun _ => ?_) | refine y_K (kk := fun _ => ?_) | refine y_L (kk := fun _ => ?_) | refine y_r (kk := fun _ _ _ _ => ?_) | refine y_D (kk := ?_) | refine y_P (kk := ?_) | refine y_B (kk := ?_) | refine y_S (kk := ?_) | refine y_O (kk := ?_) | refine y_t (kk := ?_) | refine y_f (kk := ?_)))
      refine VW.Ord.effF rfl (Ops.alloc rfl rfl rfl rfl (fun w8 y hy => Ops.nil (W.endl ⟨Below.put hb7 hy.kp (fun _ e => e.elim), ?_⟩)))
      have hb8 : Below w6.heap.size w6 w8 := Below.put hb7 hy.kp (fun _ e => e.elim)
      have hyw : w6.heap.size ≤ y := by have := hy.r_eq; have := hb7.size; omega
      refine VW.Ord.effF rfl (Ops.st2 rfl rfl rfl rfl rfl rfl rfl rfl hy.at_ (fun w9 hu9 => Ops.nil (W.endl ⟨Below.put hb8 hu9.kp (fun i e => by omega), ?_⟩)))
      have hb9 : Below w6.heap.size w6 w9 := Below.put hb8 hu9.kp (fun i e => by omega)
      refine VW.Ord.nil ?_
      have hblky := hu9.blk
      rw [ei] at hblky
      have hblk9 := hblk6.kp (Kp.of_below (S := fun _ => False) hb9) (fun e => e)
      have hm9 := hm6.below hb9
      have hO9 := hO6.below hb9
      have hxy : ¬ x = y := by have := hblk6.lt; omega
      have hby : ¬ y = b := by have := hm6.lt; omega
      cases hbit : t.testBit j with
      | true =>
        have hor2 : t ||| 2 ^ j = t := (hst.2 hbit).symm
        (repeat (first | with_reducible refine W.seq ?_ | with_reducible refine Ops.nil ?_ | with_reducible refine W.region ?_ | refine z_p (kk := ?_) | refine z_a (kk := ?_) | refine z_y (kk := ?_) | refine z_n (kk := ?_) | refine z_u (kk := ?_) | with_reducible refine W.skip ?_ | with_reducible refine W.endb ?_ | with_reducible refine W.block ?_ | refine W.exit rfl ?_ | refine z_l (kk := ?_) | refine z_f (kk := ?_) | refine z_M (kk := ?_) | refine z_m (kk := ?_) | refine z_e (kk := ?_) | refine z_E (kk := ?_) | refine z_d (kk := ?_) | refine z_I (kk := fun _ => ?_) | refine z_J (kk := fun _ => ?_) | refine z_K (kk := fun _ => ?_) | refine z_L (kk := fun _ => ?_) | refine z_T (kk := ?_) | refine z_F (kk := ?_) | refine z_r (kk := fun _ _ _ _ => ?_) | refine z_D (kk := ?_) | refine z_B (kk := ?_) | refine z_S (kk := ?_) | refine z_Q (kk := ?_) | refine z_1 (kk := ?_) | refine z_O (kk := ?_) | refine z_2 (kk := ?_) | refine z_g (kk := ?_) | refine z_h (kk := ?_)))
        refine W.condF rfl (by first | rfl | assumption | (simp only [bnf] <;> omega) | (simp only [*, bnf]; done) | fail) ?_
        (repeat (first | with_reducible refine W.seq ?_ | with_reducible refine Ops.nil ?_ | with_reducible refine W.region ?_ | refine z_p (kk := ?_) | refine z_a (kk := ?_) | refine z_y (kk := ?_) | refine z_n (kk := ?_) | refine z_u (kk := ?_) | with_reducible refine W.skip ?_ | with_reducible refine W.endb ?_ | with_reducible refine W.block ?_ | refine W.exit rfl ?_ | refine z_l (kk := ?_) | refine z_f (kk := ?_) | refine z_M (kk := ?_) | refine z_m (kk := ?_) | refine z_e (kk := ?_) | refine z_E (kk := ?_) | refine z_d (kk := ?_) | refine z_I (kk := fun _ => ?_) | refine z_J (kk := fun _ => ?_) | refine z_K (kk := fun _ => ?_) | refine z_L (kk := fun _ => ?_) | refine z_T (kk := ?_) | refine z_F (kk := ?_) | refine z_r (kk := fun _ _ _ _ => ?_) | refine z_D (kk := ?_) | refine z_B (kk := ?_) | refine z_S (kk := ?_) | refine z_Q (kk := ?_) | refine z_1 (kk := ?_) | refine z_O (kk := ?_) | refine z_2 (kk := ?_) | refine z_g (kk := ?_) | refine z_h (kk := ?_)))
        refine W.endl ⟨_, _, ⟨⟨j + 1, f6, rfl, by omega, rfl, hO9, hblk9, hm9, hG6, fun q hq => ?_⟩, by omega⟩, (by repeat (first | exact trivial | refine And.intro rfl ?_))⟩
        by_cases e : q = j
        · subst e; simp [hitB, hbit]
        · exact hno q (by omega)
      | false =>
        have hor2 : ¬ t ||| 2 ^ j = t := fun e => by have := hst.1 e.symm; rw [hbit] at this; cases this
        (repeat (first | with_reducible refine W.seq ?_ | with_reducible refine Ops.nil ?_ | with_reducible refine W.region ?_ | refine z_p (kk := ?_) | refine z_a (kk := ?_) | refine z_y (kk := ?_) | refine z_n (kk := ?_) | refine z_u (kk := ?_) | with_reducible refine W.skip ?_ | with_reducible refine W.endb ?_ | with_reducible refine W.block ?_ | refine W.exit rfl ?_ | refine z_l (kk := ?_) | refine z_f (kk := ?_) | refine z_M (kk := ?_) | refine z_m (kk := ?_) | refine z_e (kk := ?_) | refine z_E (kk := ?_) | refine z_d (kk := ?_) | refine z_I (kk := fun _ => ?_) | refine z_J (kk := fun _ => ?_) | refine z_K (kk := fun _ => ?_) | refine z_L (kk := fun _ => ?_) | refine z_T (kk := ?_) | refine z_F (kk := ?_) | refine z_r (kk := fun _ _ _ _ => ?_) | refine z_D (kk := ?_) | refine z_B (kk := ?_) | refine z_S (kk := ?_) | refine z_Q (kk := ?_) | refine z_1 (kk := ?_) | refine z_O (kk := ?_) | refine z_2 (kk := ?_) | refine z_g (kk := ?_) | refine z_h (kk := ?_)))
        refine Ops.call rfl rfl rfl rfl rfl (rest_c hM hC (by omega) k (t ||| 2 ^ j) w9 f6 (by omega) hor hO9.bel hm9 hG6 (.inl ⟨rfl, rfl⟩)) (fun r5 w10 hR => ?_)
        obtain ⟨rfl, hk10, f10, hm10, hG10, _⟩ := hR
        have hO10 := hO9.kp hk10 (fun i e => ⟨by omega, by rw [e]; exact hne2⟩)
        have hblk10 := hblk9.kp hk10 hbx
        have hblky10 := hblky.kp hk10 hby
        by_cases hh : (row c ((c.length - (k + 1) : Nat) : Int)).getD j 0 + restS c g0 k (t ||| 2 ^ j) = restS c g0 (k + 1) t
        · have hhit : hitB c k t j = true := by
            rw [hrow] at hh
            simp only [hitB, hbit, hh]; simp
          have hfs : findS (hitB c k t) c.length 0 = j := findS_eq hjl hhit hno
          (repeat (first | with_reducible refine W.seq ?_ | with_reducible refine Ops.nil ?_ | with_reducible refine W.region ?_ | refine z_p (kk := ?_) | refine z_a (kk := ?_) | refine z_y (kk := ?_) | refine z_n (kk := ?_) | refine z_u (kk := ?_) | with_reducible refine W.skip ?_ | with_reducible refine W.endb ?_ | with_reducible refine W.block ?_ | refine W.exit rfl ?_ | refine z_l (kk := ?_) | refine z_f (kk := ?_) | refine z_M (kk := ?_) | refine z_m (kk := ?_) | refine z_e (kk := ?_) | refine z_E (kk := ?_) | refine z_d (kk := ?_) | refine z_I (kk := fun _ => ?_) | refine z_J (kk := fun _ => ?_) | refine z_K (kk := fun _ => ?_) | refine z_L (kk := fun _ => ?_) | refine z_T (kk := ?_) | refine z_F (kk := ?_) | refine z_r (kk := fun _ _ _ _ => ?_) | refine z_D (kk := ?_) | refine z_B (kk := ?_) | refine z_S (kk := ?_) | refine z_Q (kk := ?_) | refine z_1 (kk := ?_) | refine z_O (kk := ?_) | refine z_2 (kk := ?_) | refine z_g (kk := ?_) | refine z_h (kk := ?_)))
          refine W.condT rfl (by first | rfl | assumption | (simp only [bnf] <;> omega) | (simp only [*, bnf]; done) | fail) ?_
          (repeat (first | with_reducible refine W.seq ?_ | with_reducible refine Ops.nil ?_ | with_reducible refine W.region ?_ | refine z_p (kk := ?_) | refine z_a (kk := ?_) | refine z_y (kk := ?_) | refine z_n (kk := ?_) | refine z_u (kk := ?_) | with_reducible refine W.skip ?_ | with_reducible refine W.endb ?_ | with_reducible refine W.block ?_ | refine W.exit rfl ?_ | refine z_l (kk := ?_) | refine z_f (kk := ?_) | refine z_M (kk := ?_) | refine z_m (kk := ?_) | refine z_e (kk := ?_) | refine z_E (kk := ?_) | refine z_d (kk := ?_) | refine z_I (kk := fun _ => ?_) | refine z_J (kk := fun _ => ?_) | refine z_K (kk := fun _ => ?_) | refine z_L (kk := fun _ => ?_) | refine z_T (kk := ?_) | refine z_F (kk := ?_) | refine z_r (kk := fun _ _ _ _ => ?_) | refine z_D (kk := ?_) | refine z_B (kk := ?_) | refine z_S (kk := ?_) | refine z_Q (kk := ?_) | refine z_1 (kk := ?_) | refine z_O (kk := ?_) | refine z_2 (kk := ?_) | refine z_g (kk := ?_) | refine z_h (kk := ?_)))
          refine Ops.pushO (enc := Value.int .i64) (u := (j : Int)) rfl rfl rfl rfl rfl rfl rfl rfl rfl rfl rfl rfl (fun _ => rfl) rfl hO10 (by omega) (fun lv' p w11 hO11 k11 hn11 => ?_)
          have hblk11 := hblk10.kp k11 hne1
          have hblky11 := hblky10.kp k11 (fun e => by have := (hO9.own.lt y e).2; have := (hO6.own.lt y e).2; omega)
          (repeat (first | with_reducible refine W.seq ?_ | with_reducible refine Ops.nil ?_ | with_reducible refine W.region ?_ | refine z_p (kk := ?_) | refine z_a (kk := ?_) | refine z_y (kk := ?_) | refine z_n (kk := ?_) | refine z_u (kk := ?_) | with_reducible refine W.skip ?_ | with_reducible refine W.endb ?_ | with_reducible refine W.block ?_ | refine W.exit rfl ?_ | refine z_l (kk := ?_) | refine z_f (kk := ?_) | refine z_M (kk := ?_) | refine z_m (kk := ?_) | refine z_e (kk := ?_) | refine z_E (kk := ?_) | refine z_d (kk := ?_) | refine z_I (kk := fun _ => ?_) | refine z_J (kk := fun _ => ?_) | refine z_K (kk := fun _ => ?_) | refine z_L (kk := fun _ => ?_) | refine z_T (kk := ?_) | refine z_F (kk := ?_) | refine z_r (kk := fun _ _ _ _ => ?_) | refine z_D (kk := ?_) | refine z_B (kk := ?_) | refine z_S (kk := ?_) | refine z_Q (kk := ?_) | refine z_1 (kk := ?_) | refine z_O (kk := ?_) | refine z_2 (kk := ?_) | refine z_g (kk := ?_) | refine z_h (kk := ?_)))
          refine Ops.st2 rfl rfl rfl rfl rfl rfl rfl rfl hblk11 (fun w12 hu12 => ?_)
          have hOx : lv'.ownBlock ≠ some x := fun e => by
            rcases hn11 x e with e2 | e2
            · exact hne1 e2
            · have := hblk10.lt; omega
          have hOb : lv'.ownBlock ≠ some b := fun e => by
            rcases hn11 b e with e2 | e2
            · exact hne2 e2
            · have := hm10.lt; omega
          have hO12 := hO11.kp hu12.kp (fun i e => ⟨by omega, by rw [e]; exact hOx⟩)
          (repeat (first | with_reducible refine W.seq ?_ | with_reducible refine Ops.nil ?_ | with_reducible refine W.region ?_ | refine z_p (kk := ?_) | refine z_a (kk := ?_) | refine z_y (kk := ?_) | refine z_n (kk := ?_) | refine z_u (kk := ?_) | with_reducible refine W.skip ?_ | with_reducible refine W.endb ?_ | with_reducible refine W.block ?_ | refine W.exit rfl ?_ | refine z_l (kk := ?_) | refine z_f (kk := ?_) | refine z_M (kk := ?_) | refine z_m (kk := ?_) | refine z_e (kk := ?_) | refine z_E (kk := ?_) | refine z_d (kk := ?_) | refine z_I (kk := fun _ => ?_) | refine z_J (kk := fun _ => ?_) | refine z_K (kk := fun _ => ?_) | refine z_L (kk := fun _ => ?_) | refine z_T (kk := ?_) | refine z_F (kk := ?_) | refine z_r (kk := fun _ _ _ _ => ?_) | refine z_D (kk := ?_) | refine z_B (kk := ?_) | refine z_S (kk := ?_) | refine z_Q (kk := ?_) | refine z_1 (kk := ?_) | refine z_O (kk := ?_) | refine z_2 (kk := ?_) | refine z_g (kk := ?_) | refine z_h (kk := ?_)))
          refine W.endl ⟨_, _, ⟨⟨k, t ||| 2 ^ j, lv', pre ++ [(j : Int)], f10, rfl, by omega, hor, ?_, ?_, by simp; omega, rfl, hO12, hu12.blk, (hm10.kp k11 hne2).kp hu12.kp (fun e => hbx e.symm), hG10, hOx, hOb⟩, by omega⟩, (by repeat (first | exact trivial | refine And.intro rfl ?_))⟩
          · have := cnt_or t j c.length
            rw [if_pos hjl] at this
            omega
          · rw [← hpre, firstS, hfs]
            simp
        · (repeat (first | with_reducible refine W.seq ?_ | with_reducible refine Ops.nil ?_ | with_reducible refine W.region ?_ | refine z_p (kk := ?_) | refine z_a (kk := ?_) | refine z_y (kk := ?_) | refine z_n (kk := ?_) | refine z_u (kk := ?_) | with_reducible refine W.skip ?_ | with_reducible refine W.endb ?_ | with_reducible refine W.block ?_ | refine W.exit rfl ?_ | refine z_l (kk := ?_) | refine z_f (kk := ?_) | refine z_M (kk := ?_) | refine z_m (kk := ?_) | refine z_e (kk := ?_) | refine z_E (kk := ?_) | refine z_d (kk := ?_) | refine z_I (kk := fun _ => ?_) | refine z_J (kk := fun _ => ?_) | refine z_K (kk := fun _ => ?_) | refine z_L (kk := fun _ => ?_) | refine z_T (kk := ?_) | refine z_F (kk := ?_) | refine z_r (kk := fun _ _ _ _ => ?_) | refine z_D (kk := ?_) | refine z_B (kk := ?_) | refine z_S (kk := ?_) | refine z_Q (kk := ?_) | refine z_1 (kk := ?_) | refine z_O (kk := ?_) | refine z_2 (kk := ?_) | refine z_g (kk := ?_) | refine z_h (kk := ?_)))
          refine W.condF rfl (by first | rfl | assumption | (simp only [bnf] <;> omega) | (simp only [*, bnf]; done) | fail) ?_
          (repeat (first | with_reducible refine W.seq ?_ | with_reducible refine Ops.nil ?_ | with_reducible refine W.region ?_ | refine z_p (kk := ?_) | refine z_a (kk := ?_) | refine z_y (kk := ?_) | refine z_n (kk := ?_) | refine z_u (kk := ?_) | with_reducible refine W.skip ?_ | with_reducible refine W.endb ?_ | with_reducible refine W.block ?_ | refine W.exit rfl ?_ | refine z_l (kk := ?_) | refine z_f (kk := ?_) | refine z_M (kk := ?_) | refine z_m (kk := ?_) | refine z_e (kk := ?_) | refine z_E (kk := ?_) | refine z_d (kk := ?_) | refine z_I (kk := fun _ => ?_) | refine z_J (kk := fun _ => ?_) | refine z_K (kk := fun _ => ?_) | refine z_L (kk := fun _ => ?_) | refine z_T (kk := ?_) | refine z_F (kk := ?_) | refine z_r (kk := fun _ _ _ _ => ?_) | refine z_D (kk := ?_) | refine z_B (kk := ?_) | refine z_S (kk := ?_) | refine z_Q (kk := ?_) | refine z_1 (kk := ?_) | refine z_O (kk := ?_) | refine z_2 (kk := ?_) | refine z_g (kk := ?_) | refine z_h (kk := ?_)))
          refine W.endl ⟨_, _, ⟨⟨j + 1, f10, rfl, by omega, rfl, hO10, hblk10, hm10, hG10, fun q hq => ?_⟩, by omega⟩, (by repeat (first | exact trivial | refine And.intro rfl ?_))⟩
          by_cases e : q = j
          · subst e
            rw [hrow] at hh
            simp only [hitB, hbit]
            simpa using hh
          · exact hno q (by omega)
    · exfalso
      have hjl : j = c.length := by omega
      subst hjl
      obtain ⟨q, hq, hqh⟩ := hit_ex (c := c) (k := k) (t := t) (cnt_free _ (by omega))
      rw [hno q hq] at hqh
      cases hqh
  · have hk0 : k = 0 := by omega
    subst hk0
    rw [firstS, List.append_nil] at hpre
    subst hpre
    (repeat (first | with_reducible refine W.seq ?_ | with_reducible refine Ops.nil ?_ | with_reducible refine W.region ?_ | refine z_p (kk := ?_) | refine z_a (kk := ?_) | refine z_y (kk := ?_) | refine z_n (kk := ?_) | refine z_u (kk := ?_) | with_reducible refine W.skip ?_ | with_reducible refine W.endb ?_ | with_reducible refine W.block ?_ | refine W.exit rfl ?_ | refine z_l (kk := ?_) | refine z_f (kk := ?_) | refine z_M (kk := ?_) | refine z_m (kk := ?_) | refine z_e (kk := ?_) | refine z_E (kk := ?_) | refine z_d (kk := ?_) | refine z_I (kk := fun _ => ?_) | refine z_J (kk := fun _ => ?_) | refine z_K (kk := fun _ => ?_) | refine z_L (kk := fun _ => ?_) | refine z_T (kk := ?_) | refine z_F (kk := ?_) | refine z_r (kk := fun _ _ _ _ => ?_) | refine z_D (kk := ?_) | refine z_B (kk := ?_) | refine z_S (kk := ?_) | refine z_Q (kk := ?_) | refine z_1 (kk := ?_) | refine z_O (kk := ?_) | refine z_2 (kk := ?_) | refine z_g (kk := ?_) | refine z_h (kk := ?_)))
    exact W.fret rfl hO
end Go.Proofs.Ytehjmakiljhjdaa
namespace Go.Proofs.Ytehjmakiljhjdaa
open Go Go.RowKit Go.Proofs.Ytehjmakiljhjdaa.VW
attribute [local irreducible] W Ops OrdA VW.Ord OrdX
theorem findS_lt {p : Nat → Bool} {n : Nat} (h : ∃ j, j < n ∧ p j = true) : findS p n 0 < n := by
  obtain ⟨j, hj, hp⟩ := h
  obtain ⟨h1, h2, h3, h4⟩ := findS_spec (p := p) n 0
  rcases Nat.lt_or_ge (findS p n 0) n with h | h
  · exact h
  · have := h1 j (by omega) (by omega); rw [hp] at this; cases this
/-- The first assignment puts every button somewhere, no two into one hole. -/
theorem firstS_asg {c : List (List Int)} : ∀ k t, cnt t c.length + k ≤ c.length → (firstS c k t).length = k ∧ (∀ i, i < k → ∃ j : Nat, (firstS c k t).getD i 0 = j ∧ j < c.length ∧ t.testBit j = false) ∧ ∀ i, i < k → ∀ q, q < i → (firstS c k t).getD q 0 ≠ (firstS c k t).getD i 0
  | 0, t, h => by simp [firstS]
  | k + 1, t, h => by
    obtain ⟨j, hj, hjh⟩ := hit_ex (c := c) (k := k) (t := t) (cnt_free _ (by omega))
    have hlt := findS_lt ⟨j, hj, hjh⟩
    have hhit := (findS_spec (p := hitB c k t) c.length 0).2.2.2 (by omega)
    have hbit : t.testBit (findS (hitB c k t) c.length 0) = false := by
      simp only [hitB, Bool.and_eq_true, Bool.not_eq_true'] at hhit
      exact hhit.1
    have hc := cnt_or t (findS (hitB c k t) c.length 0) c.length
    rw [if_pos hlt] at hc
    obtain ⟨h1, h2, h3⟩ := firstS_asg (c := c) k (t ||| 2 ^ findS (hitB c k t) c.length 0) (by omega)
    have hsub : ∀ j, (t ||| 2 ^ findS (hitB c k t) c.length 0).testBit j = false → t.testBit j = false ∧ j ≠ findS (hitB c k t) c.length 0 := fun j hj => by
      rw [Nat.testBit_or, Nat.testBit_two_pow, Bool.or_eq_false_iff] at hj
      exact ⟨hj.1, fun e => by have := hj.2; simp [e] at this⟩
    simp only [firstS]
    refine ⟨by simp [h1], fun i hi => ?_, fun i hi q hq => ?_⟩
    · cases i with
      | zero => exact ⟨_, rfl, hlt, hbit⟩
      | succ i =>
        obtain ⟨j, e, hj, hjb⟩ := h2 i (by omega)
        exact ⟨j, by simpa using e, hj, (hsub j hjb).1⟩
    · cases i with
      | zero => omega
      | succ i =>
        obtain ⟨j, e, hj, hjb⟩ := h2 i (by omega)
        cases q with
        | zero =>
          simp only [List.getD_cons_zero, List.getD_cons_succ]
          rw [e]
          have := (hsub j hjb).2
          omega
        | succ q =>
          simp only [List.getD_cons_succ]
          exact h3 i (by omega) q (by omega)
theorem firstS_Asg {c : List (List Int)} : Asg (firstS c c.length 0) c.length := by
  obtain ⟨h1, h2, h3⟩ := firstS_asg (c := c) c.length 0 (by rw [cnt_zero]; omega)
  refine ⟨h1, fun i hi => ⟨?_, h3 i (by omega)⟩⟩
  obtain ⟨j, e, hj, _⟩ := h2 i (by omega)
  omega
theorem rest0_c {w0 w : World} {cv ov : Value} {c : List (List Int)} {g : Int → Bool} {b t : Nat} (hM : RowsM w0 cv c) (hC : Cst c) (hb0 : w0.heap.size ≤ b) (ht : t < 2 ^ c.length) (hbel : Below w0.heap.size w0 w) (hm : MapK Try.prog 82 encP w b (fun _ => none)) (hO : OutM w ov g b) :
    Calls Try.prog 62 #[cv, .map (some b), ov, .agg #[.int .i64 0, .int .i64 (t : Int)]] w (Ret fun r w' => r = .int .i64 (restS c g c.length t) ∧ Kp (fun i => i = b) w w') := by
  have h := rest_c hM hC hb0 c.length t w (fun _ => none) (Nat.le_refl _) ht hbel hm (fun q v h => by cases h) hO
  rw [Nat.sub_self] at h
  exact h.mono fun e w' ⟨v, he, hv, hk, _⟩ => ⟨v, he, hv, hk⟩
/-- The payments of the first buttons. -/
def paysS (c : List (List Int)) (l : List Int) : Nat → List Int
  | 0 => []
  | i + 1 => paysS c l i ++ [totP c l l.length - (c.getD i []).getD (l.getD i 0).toNat 0 - restS c (fun k => false || k == (i : Int)) c.length 0]
theorem paysS_len {c : List (List Int)} {l : List Int} : ∀ i, (paysS c l i).length = i
  | 0 => rfl
  | i + 1 => by simp [paysS, paysS_len i]
set_option maxHeartbeats 4000000 in
theorem pays_c {w : World} {cv : Value} {c : List (List Int)} (hM : RowsM w cv c) : Calls Try.prog 32 #[cv] w (Ret fun r w' => (costsB c = false → r = .tuple #[.slice none 0 0, .int .i64 2] ∧ Below w.heap.size w w') ∧ (costsB c = true → ∃ v, r = .tuple #[v, .int .i64 0] ∧ OI 3 (Value.int .i64) w w' v (paysS c (firstS c c.length 0) c.length))) := by
  obtain ⟨Ac, cc, rfl⟩ := hM.sl
  refine calls_W (vs := [_]) Try.func32 rfl (by kernel_rfl) rfl ?_
  (repeat (first | with_reducible refine W.seq ?_ | with_reducible refine Ops.nil ?_ | with_reducible refine W.region ?_ | refine z_p (kk := ?_) | refine z_a (kk := ?_) | refine z_y (kk := ?_) | refine z_n (kk := ?_) | refine z_u (kk := ?_) | with_reducible refine W.skip ?_ | with_reducible refine W.endb ?_ | with_reducible refine W.block ?_ | refine W.exit rfl ?_ | refine z_l (kk := ?_) | refine z_f (kk := ?_) | refine z_M (kk := ?_) | refine z_m (kk := ?_) | refine z_e (kk := ?_) | refine z_E (kk := ?_) | refine z_d (kk := ?_) | refine z_I (kk := fun _ => ?_) | refine z_J (kk := fun _ => ?_) | refine z_K (kk := fun _ => ?_) | refine z_L (kk := fun _ => ?_) | refine z_T (kk := ?_) | refine z_F (kk := ?_) | refine z_r (kk := fun _ _ _ _ => ?_) | refine z_D (kk := ?_) | refine z_B (kk := ?_) | refine z_S (kk := ?_) | refine z_Q (kk := ?_) | refine z_1 (kk := ?_) | refine z_O (kk := ?_) | refine z_2 (kk := ?_) | refine z_g (kk := ?_) | refine z_h (kk := ?_)))
  refine Ops.call rfl rfl rfl rfl rfl (areCosts_c hM) (fun r w1 hR => ?_)
  obtain ⟨rfl, hb1⟩ := hR
  cases hcB : costsB c with
  | false =>
    (repeat (first | with_reducible refine W.seq ?_ | with_reducible refine Ops.nil ?_ | with_reducible refine W.region ?_ | refine z_p (kk := ?_) | refine z_a (kk := ?_) | refine z_y (kk := ?_) | refine z_n (kk := ?_) | refine z_u (kk := ?_) | with_reducible refine W.skip ?_ | with_reducible refine W.endb ?_ | with_reducible refine W.block ?_ | refine W.exit rfl ?_ | refine z_l (kk := ?_) | refine z_f (kk := ?_) | refine z_M (kk := ?_) | refine z_m (kk := ?_) | refine z_e (kk := ?_) | refine z_E (kk := ?_) | refine z_d (kk := ?_) | refine z_I (kk := fun _ => ?_) | refine z_J (kk := fun _ => ?_) | refine z_K (kk := fun _ => ?_) | refine z_L (kk := fun _ => ?_) | refine z_T (kk := ?_) | refine z_F (kk := ?_) | refine z_r (kk := fun _ _ _ _ => ?_) | refine z_D (kk := ?_) | refine z_B (kk := ?_) | refine z_S (kk := ?_) | refine z_Q (kk := ?_) | refine z_1 (kk := ?_) | refine z_O (kk := ?_) | refine z_2 (kk := ?_) | refine z_g (kk := ?_) | refine z_h (kk := ?_)))
    refine W.condT rfl (by first | rfl | assumption | (simp only [bnf] <;> omega) | (simp only [*, bnf]; done) | fail) ?_
    (repeat (first | with_reducible refine W.seq ?_ | with_reducible refine Ops.nil ?_ | with_reducible refine W.region ?_ | refine z_p (kk := ?_) | refine z_a (kk := ?_) | refine z_y (kk := ?_) | refine z_n (kk := ?_) | refine z_u (kk := ?_) | with_reducible refine W.skip ?_ | with_reducible refine W.endb ?_ | with_reducible refine W.block ?_ | refine W.exit rfl ?_ | refine z_l (kk := ?_) | refine z_f (kk := ?_) | refine z_M (kk := ?_) | refine z_m (kk := ?_) | refine z_e (kk := ?_) | refine z_E (kk := ?_) | refine z_d (kk := ?_) | refine z_I (kk := fun _ => ?_) | refine z_J (kk := fun _ => ?_) | refine z_K (kk := fun _ => ?_) | refine z_L (kk := fun _ => ?_) | refine z_T (kk := ?_) | refine z_F (kk := ?_) | refine z_r (kk := fun _ _ _ _ => ?_) | refine z_D (kk := ?_) | refine z_B (kk := ?_) | refine z_S (kk := ?_) | refine z_Q (kk := ?_) | refine z_1 (kk := ?_) | refine z_O (kk := ?_) | refine z_2 (kk := ?_) | refine z_g (kk := ?_) | refine z_h (kk := ?_)))
    exact W.fret rfl ⟨fun _ => ⟨rfl, hb1⟩, fun h => by cases h⟩
  | true =>
    have hC := costs_iff.1 hcB
    have hn7 := hC.n7
    obtain ⟨hlen, hasg⟩ := firstS_Asg (c := c)
    have htb := totP_bd hC (fun i hi => (hasg i hi).1) (by omega) (firstS c c.length 0).length (Nat.le_refl _)
    (repeat (first | with_reducible refine W.seq ?_ | with_reducible refine Ops.nil ?_ | with_reducible refine W.region ?_ | refine z_p (kk := ?_) | refine z_a (kk := ?_) | refine z_y (kk := ?_) | refine z_n (kk := ?_) | refine z_u (kk := ?_) | with_reducible refine W.skip ?_ | with_reducible refine W.endb ?_ | with_reducible refine W.block ?_ | refine W.exit rfl ?_ | refine z_l (kk := ?_) | refine z_f (kk := ?_) | refine z_M (kk := ?_) | refine z_m (kk := ?_) | refine z_e (kk := ?_) | refine z_E (kk := ?_) | refine z_d (kk := ?_) | refine z_I (kk := fun _ => ?_) | refine z_J (kk := fun _ => ?_) | refine z_K (kk := fun _ => ?_) | refine z_L (kk := fun _ => ?_) | refine z_T (kk := ?_) | refine z_F (kk := ?_) | refine z_r (kk := fun _ _ _ _ => ?_) | refine z_D (kk := ?_) | refine z_B (kk := ?_) | refine z_S (kk := ?_) | refine z_Q (kk := ?_) | refine z_1 (kk := ?_) | refine z_O (kk := ?_) | refine z_2 (kk := ?_) | refine z_g (kk := ?_) | refine z_h (kk := ?_)))
    refine W.condF rfl (by first | rfl | assumption | (simp only [bnf] <;> omega) | (simp only [*, bnf]; done) | fail) ?_
    (repeat (first | with_reducible refine W.seq ?_ | with_reducible refine Ops.nil ?_ | with_reducible refine W.region ?_ | refine z_p (kk := ?_) | refine z_a (kk := ?_) | refine z_y (kk := ?_) | refine z_n (kk := ?_) | refine z_u (kk := ?_) | with_reducible refine W.skip ?_ | with_reducible refine W.endb ?_ | with_reducible refine W.block ?_ | refine W.exit rfl ?_ | refine z_l (kk := ?_) | refine z_f (kk := ?_) | refine z_M (kk := ?_) | refine z_m (kk := ?_) | refine z_e (kk := ?_) | refine z_E (kk := ?_) | refine z_d (kk := ?_) | refine z_I (kk := fun _ => ?_) | refine z_J (kk := fun _ => ?_) | refine z_K (kk := fun _ => ?_) | refine z_L (kk := fun _ => ?_) | refine z_T (kk := ?_) | refine z_F (kk := ?_) | refine z_r (kk := fun _ _ _ _ => ?_) | refine z_D (kk := ?_) | refine z_B (kk := ?_) | refine z_S (kk := ?_) | refine z_Q (kk := ?_) | refine z_1 (kk := ?_) | refine z_O (kk := ?_) | refine z_2 (kk := ?_) | refine z_g (kk := ?_) | refine z_h (kk := ?_)))
    refine Ops.call rfl rfl rfl rfl rfl (first_c (hM.below hb1) hC) (fun lv w2 hO2 => ?_)
    obtain ⟨Al, cl, rfl⟩ := hO2.sh
    have hb2 := Below.via hb1 hO2.bel
    have hsl2 : SlI w2 (.slice Al (firstS c c.length 0).length cl) (firstS c c.length 0) := hO2.sl
    (repeat (first | with_reducible refine W.seq ?_ | with_reducible refine Ops.nil ?_ | with_reducible refine W.region ?_ | refine z_p (kk := ?_) | refine z_a (kk := ?_) | refine z_y (kk := ?_) | refine z_n (kk := ?_) | refine z_u (kk := ?_) | with_reducible refine W.skip ?_ | with_reducible refine W.endb ?_ | with_reducible refine W.block ?_ | refine W.exit rfl ?_ | refine z_l (kk := ?_) | refine z_f (kk := ?_) | refine z_M (kk := ?_) | refine z_m (kk := ?_) | refine z_e (kk := ?_) | refine z_E (kk := ?_) | refine z_d (kk := ?_) | refine z_I (kk := fun _ => ?_) | refine z_J (kk := fun _ => ?_) | refine z_K (kk := fun _ => ?_) | refine z_L (kk := fun _ => ?_) | refine z_T (kk := ?_) | refine z_F (kk := ?_) | refine z_r (kk := fun _ _ _ _ => ?_) | refine z_D (kk := ?_) | refine z_B (kk := ?_) | refine z_S (kk := ?_) | refine z_Q (kk := ?_) | refine z_1 (kk := ?_) | refine z_O (kk := ?_) | refine z_2 (kk := ?_) | refine z_g (kk := ?_) | refine z_h (kk := ?_)))
    refine W.loop (fun m ρ w3 => ∃ (i : Nat) (ov : Value), m = c.length - i ∧ i ≤ c.length ∧ ρ = [(0, .slice Ac c.length cc), (4, .slice Al (firstS c c.length 0).length cl), (5, ov), (14, .slice Al (firstS c c.length 0).length cl), (15, .int .i64 (firstS c c.length 0).length), (16, .int .i64 i)] ∧ Below w2.heap.size w2 w3 ∧ OI 3 (Value.int .i64) w2 w3 ov (paysS c (firstS c c.length 0) i))
      ⟨_, _, ⟨0, _, rfl, Nat.zero_le _, rfl, Below.refl _ _, OI.nil (Below.refl _ _)⟩, (by repeat (first | exact trivial | refine And.intro rfl ?_))⟩ ?_
    rintro m ρ w3 ⟨i, ov, rfl, hi, rfl, hb3, hO3⟩
    have hb03 := Below.via hb2 hb3
    (repeat (first | with_reducible refine W.seq ?_ | with_reducible refine Ops.nil ?_ | with_reducible refine W.region ?_ | refine z_p (kk := ?_) | refine z_a (kk := ?_) | refine z_y (kk := ?_) | refine z_n (kk := ?_) | refine z_u (kk := ?_) | with_reducible refine W.skip ?_ | with_reducible refine W.endb ?_ | with_reducible refine W.block ?_ | refine W.exit rfl ?_ | refine z_l (kk := ?_) | refine z_f (kk := ?_) | refine z_M (kk := ?_) | refine z_m (kk := ?_) | refine z_e (kk := ?_) | refine z_E (kk := ?_) | refine z_d (kk := ?_) | refine z_I (kk := fun _ => ?_) | refine z_J (kk := fun _ => ?_) | refine z_K (kk := fun _ => ?_) | refine z_L (kk := fun _ => ?_) | refine z_T (kk := ?_) | refine z_F (kk := ?_) | refine z_r (kk := fun _ _ _ _ => ?_) | refine z_D (kk := ?_) | refine z_B (kk := ?_) | refine z_S (kk := ?_) | refine z_Q (kk := ?_) | refine z_1 (kk := ?_) | refine z_O (kk := ?_) | refine z_2 (kk := ?_) | refine z_g (kk := ?_) | refine z_h (kk := ?_)))
    (first | refine W.condD rfl (fun hc => ?_) (fun hc => ?_) | refine W.condE rfl (fun hc => ?_) (fun hc => ?_) | refine W.condN rfl (fun hc => ?_) (fun hc => ?_) | refine W.cond rfl (fun hc => ?_) (fun hc => ?_))
    · have hil : i < c.length := by omega
      have hli := (hasg i (by omega)).1
      (repeat (first | with_reducible refine W.seq ?_ | with_reducible refine Ops.nil ?_ | with_reducible refine W.region ?_ | refine z_p (kk := ?_) | refine z_a (kk := ?_) | refine z_y (kk := ?_) | refine z_n (kk := ?_) | refine z_u (kk := ?_) | with_reducible refine W.skip ?_ | with_reducible refine W.endb ?_ | with_reducible refine W.block ?_ | refine W.exit rfl ?_ | refine z_l (kk := ?_) | refine z_f (kk := ?_) | refine z_M (kk := ?_) | refine z_m (kk := ?_) | refine z_e (kk := ?_) | refine z_E (kk := ?_) | refine z_d (kk := ?_) | refine z_I (kk := fun _ => ?_) | refine z_J (kk := fun _ => ?_) | refine z_K (kk := fun _ => ?_) | refine z_L (kk := fun _ => ?_) | refine z_T (kk := ?_) | refine z_F (kk := ?_) | refine z_r (kk := fun _ _ _ _ => ?_) | refine z_D (kk := ?_) | refine z_B (kk := ?_) | refine z_S (kk := ?_) | refine z_Q (kk := ?_) | refine z_1 (kk := ?_) | refine z_O (kk := ?_) | refine z_2 (kk := ?_) | refine z_g (kk := ?_) | refine z_h (kk := ?_)))
      refine Ops.mkK (enc := encP) (kt := 82) rfl rfl rfl (fun w4 b hm4 hk4 hb4 hs4 => ?_)
      refine Ops.mkM rfl rfl rfl (fun w5 b5 hm5 hk5 hb5 => ?_)
      (repeat (first | with_reducible refine W.seq ?_ | with_reducible refine Ops.nil ?_ | with_reducible refine W.region ?_ | refine z_p (kk := ?_) | refine z_a (kk := ?_) | refine z_y (kk := ?_) | refine z_n (kk := ?_) | refine z_u (kk := ?_) | with_reducible refine W.skip ?_ | with_reducible refine W.endb ?_ | with_reducible refine W.block ?_ | refine W.exit rfl ?_ | refine z_l (kk := ?_) | refine z_f (kk := ?_) | refine z_M (kk := ?_) | refine z_m (kk := ?_) | refine z_e (kk := ?_) | refine z_E (kk := ?_) | refine z_d (kk := ?_) | refine z_I (kk := fun _ => ?_) | refine z_J (kk := fun _ => ?_) | refine z_K (kk := fun _ => ?_) | refine z_L (kk := fun _ => ?_) | refine z_T (kk := ?_) | refine z_F (kk := ?_) | refine z_r (kk := fun _ _ _ _ => ?_) | refine z_D (kk := ?_) | refine z_B (kk := ?_) | refine z_S (kk := ?_) | refine z_Q (kk := ?_) | refine z_1 (kk := ?_) | refine z_O (kk := ?_) | refine z_2 (kk := ?_) | refine z_g (kk := ?_) | refine z_h (kk := ?_)))
      refine Ops.ins rfl rfl rfl rfl rfl rfl rfl rfl hm5 (fun w6 hm6 hk6 hs6 => ?_)
      (repeat (first | with_reducible refine W.seq ?_ | with_reducible refine Ops.nil ?_ | with_reducible refine W.region ?_ | refine z_p (kk := ?_) | refine z_a (kk := ?_) | refine z_y (kk := ?_) | refine z_n (kk := ?_) | refine z_u (kk := ?_) | with_reducible refine W.skip ?_ | with_reducible refine W.endb ?_ | with_reducible refine W.block ?_ | refine W.exit rfl ?_ | refine z_l (kk := ?_) | refine z_f (kk := ?_) | refine z_M (kk := ?_) | refine z_m (kk := ?_) | refine z_e (kk := ?_) | refine z_E (kk := ?_) | refine z_d (kk := ?_) | refine z_I (kk := fun _ => ?_) | refine z_J (kk := fun _ => ?_) | refine z_K (kk := fun _ => ?_) | refine z_L (kk := fun _ => ?_) | refine z_T (kk := ?_) | refine z_F (kk := ?_) | refine z_r (kk := fun _ _ _ _ => ?_) | refine z_D (kk := ?_) | refine z_B (kk := ?_) | refine z_S (kk := ?_) | refine z_Q (kk := ?_) | refine z_1 (kk := ?_) | refine z_O (kk := ?_) | refine z_2 (kk := ?_) | refine z_g (kk := ?_) | refine z_h (kk := ?_)))
      refine Ops.bldG rfl rfl rfl rfl rfl rfl rfl ?_
      have h3s := hb03.size
      have h4s := hk4.size
      have h5s := hk5.size
      have hb06 : Below w.heap.size w w6 := Below.put (Below.put (Below.put hb03 hk4 (fun _ e => e.elim)) hk5 (fun _ e => e.elim)) hk6 (fun i e => by omega)
      have hb36 : Below w3.heap.size w3 w6 := Below.put (Below.put (Below.put (Below.refl _ _) hk4 (fun _ e => e.elim)) hk5 (fun _ e => e.elim)) hk6 (fun i e => by omega)
      refine Ops.call rfl rfl rfl rfl rfl (rest0_c (t := 0) (g := fun k => false || k == (i : Int)) hM hC (by omega) (Nat.two_pow_pos _) hb06 ((hm4.kp hk5 (fun e => e)).kp hk6 (fun e => by omega)) (.inr ⟨b5, rfl, by omega, hm6⟩)) (fun r7 w7 hR => ?_)
      obtain ⟨rfl, hk7⟩ := hR
      have hb07 : Below w.heap.size w w7 := Below.put hb06 hk7 (fun i e => by omega)
      have hb37 : Below w3.heap.size w3 w7 := Below.put hb36 hk7 (fun i e => by omega)
      have hO7 := hO3.below hb37
      have hb27 := hO7.bel
      have hrs := restS_bd (g := fun k => false || k == (i : Int)) hC c.length (Nat.le_refl _) 0
      have hrow : row c (i : Int) = c.getD i [] := by simp [row]
      have hcl := hC.len i (by omega)
      have hcb := hC.bd i ((firstS c c.length 0).getD i 0).toNat (by omega) (by omega)
      rw [← hrow] at hcl hcb
      (repeat (first | with_reducible refine W.seq ?_ | with_reducible refine Ops.nil ?_ | with_reducible refine W.region ?_ | refine z_p (kk := ?_) | refine z_a (kk := ?_) | refine z_y (kk := ?_) | refine z_n (kk := ?_) | refine z_u (kk := ?_) | with_reducible refine W.skip ?_ | with_reducible refine W.endb ?_ | with_reducible refine W.block ?_ | refine W.exit rfl ?_ | refine z_l (kk := ?_) | refine z_f (kk := ?_) | refine z_M (kk := ?_) | refine z_m (kk := ?_) | refine z_e (kk := ?_) | refine z_E (kk := ?_) | refine z_d (kk := ?_) | refine z_I (kk := fun _ => ?_) | refine z_J (kk := fun _ => ?_) | refine z_K (kk := fun _ => ?_) | refine z_L (kk := fun _ => ?_) | refine z_T (kk := ?_) | refine z_F (kk := ?_) | refine z_r (kk := fun _ _ _ _ => ?_) | refine z_D (kk := ?_) | refine z_B (kk := ?_) | refine z_S (kk := ?_) | refine z_Q (kk := ?_) | refine z_1 (kk := ?_) | refine z_O (kk := ?_) | refine z_2 (kk := ?_) | refine z_g (kk := ?_) | refine z_h (kk := ?_)))
      refine W.ordA 14 [(0, 1), (1, 1), (2, 1), (3, 2), (4, 1), (5, 1), (6, 1), (7, 2), (8, 1), (9, 1), (10, 2), (11, 1), (12, 1), (13, 1), (14, 0), (15, 0), (16, 1)] rfl (by kernel_rfl) rfl (by kernel_rfl) (fun _ _ _ h => h) ?_
      (repeat (first | refine x_p (kk := ?_) | refine x_n (kk := ?_) | refine x_a (kk := ?_) | refine x_l (kk := ?_) | refine x_M (kk := ?_) | refine x_m (kk := ?_) | refine x_e (kk := ?_) | refine x_E (kk := ?_) | refine x_T (kk := ?_) | refine x_F (kk := ?_) | refine x_I (kk := fun _ => ?_) | refine x_J (kk := fun _ => ?_) | refine x_K (kk := fun _ => ?_) | refine x_L (kk := fun _ => ?_) | refine x_r (kk := fun _ _ _ _ => ?_) | refine x_D (kk := ?_) | refine x_P (kk := ?_) | refine x_B (kk := ?_) | refine x_S (kk := ?_) | refine x_O (kk := ?_) | refine x_t (kk := ?_) | refine x_f (kk := ?_)))
      refine OrdA.call rfl rfl rfl rfl rfl rfl rfl (v := .int .i64 (totP c (firstS c c.length 0) (firstS c c.length 0).length)) (fun w' hw' => (total_c (hM.below (Below.via hb07 hw')) hC (Sl.below hsl2 (Below.via hb27 hw')) (fun i hi => (hasg i hi).1) (by omega)).mono fun e w'' ⟨v, he, hv⟩ => ⟨v, he, hv.1, by rw [hv.2]; exact hw'⟩) ?_
      (repeat (first | refine x_p (kk := ?_) | refine x_n (kk := ?_) | refine x_a (kk := ?_) | refine x_l (kk := ?_) | refine x_M (kk := ?_) | refine x_m (kk := ?_) | refine x_e (kk := ?_) | refine x_E (kk := ?_) | refine x_T (kk := ?_) | refine x_F (kk := ?_) | refine x_I (kk := fun _ => ?_) | refine x_J (kk := fun _ => ?_) | refine x_K (kk := fun _ => ?_) | refine x_L (kk := fun _ => ?_) | refine x_r (kk := fun _ _ _ _ => ?_) | refine x_D (kk := ?_) | refine x_P (kk := ?_) | refine x_B (kk := ?_) | refine x_S (kk := ?_) | refine x_O (kk := ?_) | refine x_t (kk := ?_) | refine x_f (kk := ?_)))
      refine OrdA.tail (fun w8 hb8 => ?_)
      have hO8 := hO7.below hb8
      have hpl : (paysS c (firstS c c.length 0) i).length = i := paysS_len i
      refine VW.Ord.pushO (enc := Value.int .i64) (u := totP c (firstS c c.length 0) (firstS c c.length 0).length - (row c (i : Int)).getD ((firstS c c.length 0).getD i 0).toNat 0 - restS c (fun k => false || k == (i : Int)) c.length 0) rfl rfl rfl rfl rfl rfl rfl rfl rfl rfl rfl rfl rfl rfl (fun _ => rfl) rfl hO8 (by omega) (fun _ _ _ _ _ _ => trivial) trivial (fun lv' p w9 _ hO9 k9 hn9 => ?_)
      (repeat (first | refine y_p (kk := ?_) | refine y_n (kk := ?_) | refine y_a (kk := ?_) | refine y_l (kk := ?_) | refine y_M (kk := ?_) | refine y_m (kk := ?_) | refine y_e (kk := ?_) | refine y_E (kk := ?_) | refine y_T (kk := ?_) | refine y_F (kk := ?_) | refine y_I (kk := fun _ => ?_) | refine y_J (kk := fun _ => ?_) | refine y_K (kk := fun _ => ?_) | refine y_L (kk := fun _ => ?_) | refine y_t (kk := ?_) | refine y_f (kk := ?_)))
      refine VW.Ord.nil ?_
      (repeat (first | with_reducible refine W.seq ?_ | with_reducible refine Ops.nil ?_ | with_reducible refine W.region ?_ | refine z_p (kk := ?_) | refine z_a (kk := ?_) | refine z_y (kk := ?_) | refine z_n (kk := ?_) | refine z_u (kk := ?_) | with_reducible refine W.skip ?_ | with_reducible refine W.endb ?_ | with_reducible refine W.block ?_ | refine W.exit rfl ?_ | refine z_l (kk := ?_) | refine z_f (kk := ?_) | refine z_M (kk := ?_) | refine z_m (kk := ?_) | refine z_e (kk := ?_) | refine z_E (kk := ?_) | refine z_d (kk := ?_) | refine z_I (kk := fun _ => ?_) | refine z_J (kk := fun _ => ?_) | refine z_K (kk := fun _ => ?_) | refine z_L (kk := fun _ => ?_) | refine z_T (kk := ?_) | refine z_F (kk := ?_) | refine z_r (kk := fun _ _ _ _ => ?_) | refine z_D (kk := ?_) | refine z_B (kk := ?_) | refine z_S (kk := ?_) | refine z_Q (kk := ?_) | refine z_1 (kk := ?_) | refine z_O (kk := ?_) | refine z_2 (kk := ?_) | refine z_g (kk := ?_) | refine z_h (kk := ?_)))
      refine W.endl ⟨_, _, ⟨⟨i + 1, lv', rfl, by omega, rfl, hO9.bel, ?_⟩, by omega⟩, (by repeat (first | exact trivial | refine And.intro rfl ?_))⟩
      simp only [paysS, ← hrow]
      exact hO9
    · have hil : i = c.length := by omega
      subst hil
      (repeat (first | with_reducible refine W.seq ?_ | with_reducible refine Ops.nil ?_ | with_reducible refine W.region ?_ | refine z_p (kk := ?_) | refine z_a (kk := ?_) | refine z_y (kk := ?_) | refine z_n (kk := ?_) | refine z_u (kk := ?_) | with_reducible refine W.skip ?_ | with_reducible refine W.endb ?_ | with_reducible refine W.block ?_ | refine W.exit rfl ?_ | refine z_l (kk := ?_) | refine z_f (kk := ?_) | refine z_M (kk := ?_) | refine z_m (kk := ?_) | refine z_e (kk := ?_) | refine z_E (kk := ?_) | refine z_d (kk := ?_) | refine z_I (kk := fun _ => ?_) | refine z_J (kk := fun _ => ?_) | refine z_K (kk := fun _ => ?_) | refine z_L (kk := fun _ => ?_) | refine z_T (kk := ?_) | refine z_F (kk := ?_) | refine z_r (kk := fun _ _ _ _ => ?_) | refine z_D (kk := ?_) | refine z_B (kk := ?_) | refine z_S (kk := ?_) | refine z_Q (kk := ?_) | refine z_1 (kk := ?_) | refine z_O (kk := ?_) | refine z_2 (kk := ?_) | refine z_g (kk := ?_) | refine z_h (kk := ?_)))
      exact W.fret rfl ⟨fun h => by (cases h), fun _ => ⟨ov, rfl, (hO3.up hO2.bel).up hb1⟩⟩
end Go.Proofs.Ytehjmakiljhjdaa
