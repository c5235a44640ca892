/- A part of the walk: what this seat's statements share. -/
import Derived.Test.YtehjmakiljhjdaaZG5
import Derived.Test.YtehjmakiljhjdaaZG10
import Derived.Test.YtehjmakiljhjdaaZG8
set_option linter.unusedVariables false
set_option linter.unusedSimpArgs false
set_option linter.unusedSectionVars false
namespace Go.Proofs.Ytehjmakiljhjdaa
open Go Go.RowKit Go.Proofs.Ytehjmakiljhjdaa.VW
open Go.Proofs.Ytehjmakiljhjdaa.HG (upd upd_eq upd_ne PI QI AU Scan Updd hasK cntB cntB_le cntB_upd muA)
attribute [local irreducible] W Ops OrdA VW.Ord OrdX
/-- The cost of button b and hole j, counted from 1 on. -/
def cst (c : List (List Int)) (b j : Nat) : Int := (c.getD (b - 1) []).getD (j - 1) 0
theorem cst_bd {c : List (List Int)} (hC : Cst c) (b j : Nat) (h1 : 1 ≤ b) (h2 : b ≤ c.length) (h3 : 1 ≤ j) (h4 : j ≤ c.length) : -1000 ≤ cst c b j ∧ cst c b j ≤ 1000 := hC.bd _ _ (by omega) (by omega)
theorem AI.of_zero {w : World} {b t : Nat} (h : w.heap[b]? = some (.cells #[.int .i64 0, .int .i64 0, .int .i64 0, .int .i64 0, .int .i64 0, .int .i64 0, .int .i64 0, .int .i64 0] t (0, 0))) : AI w b t (fun _ => 0) := h
theorem AN.of_zero {w : World} {b t : Nat} (h : w.heap[b]? = some (.cells #[.int .i64 0, .int .i64 0, .int .i64 0, .int .i64 0, .int .i64 0, .int .i64 0, .int .i64 0, .int .i64 0] t (0, 0))) : AN w b t (fun _ => 0) := h
theorem AB.of_zero {w : World} {b t : Nat} (h : w.heap[b]? = some (.cells #[.bool false, .bool false, .bool false, .bool false, .bool false, .bool false, .bool false, .bool false] t (0, 0))) : AB w b t (fun _ => false) := h
/-- The memory between two buttons. -/
structure S0 (w0 : World) (b2 b4 b5 b6 : Nat) (u v : Nat → Int) (o fr : Nat → Nat) (w : World) : Prop where
  bel : Below w0.heap.size w0 w
  P : PV w b4 u v
  O : AN w b5 84 o
  R : AN w b6 84 fr
  Z : Blk w b2 (rng 16 fun _ => .int .i64 0).toArray 86
theorem S0.kp {w0 : World} {b2 b4 b5 b6 : Nat} {u v : Nat → Int} {o fr : Nat → Nat} {w w' : World} {S : Nat → Prop} (h : S0 w0 b2 b4 b5 b6 u v o fr w) (k : Kp S w w') (hs : ∀ i, S i → w0.heap.size ≤ i ∧ i ≠ b2 ∧ i ≠ b4 ∧ i ≠ b5 ∧ i ≠ b6) : S0 w0 b2 b4 b5 b6 u v o fr w' :=
  ⟨Below.put h.bel k (fun i hi => (hs i hi).1), h.P.kp k (fun e => (hs _ e).2.2.1 rfl), h.O.kp k (fun e => (hs _ e).2.2.2.1 rfl), h.R.kp k (fun e => (hs _ e).2.2.2.2 rfl), h.Z.kp k (fun e => (hs _ e).2.1 rfl)⟩
set_option maxHeartbeats 8000000 in
theorem proof_c {w : World} {cv : Value} {c : List (List Int)} (hM : RowsM w cv c) (hC : Cst c) : Calls Try.prog 64 #[cv] w (Ret fun r w' => Below w.heap.size w w' ∧ ∃ u v o, PI (cst c) c.length c.length u v o ∧ r = .agg (rng 16 fun j => .int .i64 (if j < 8 then u j else v (j - 8))).toArray) := by
  have hn7 := hC.n7
  have hn1 := hC.n1
  have hcb := cst_bd hC
  obtain ⟨Ac, cc, rfl⟩ := hM.sl
  refine calls_W (vs := [_]) Try.func64 rfl (by kernel_rfl) rfl ?_
  (repeat (first | with_reducible refine W.seq ?_ | with_reducible refine Ops.nil ?_ | with_reducible refine W.region ?_ | refine z_p (kk := ?_) | refine z_a (kk := ?_) | refine z_y (kk := ?_) | refine z_n (kk := ?_) | refine z_u (kk := ?_) | with_reducible refine W.skip ?_ | with_reducible refine W.endb ?_ | with_reducible refine W.block ?_ | refine W.exit rfl ?_ | refine z_l (kk := ?_) | refine z_f (kk := ?_) | refine z_M (kk := ?_) | refine z_m (kk := ?_) | refine z_e (kk := ?_) | refine z_E (kk := ?_) | refine z_d (kk := ?_) | refine z_I (kk := fun _ => ?_) | refine z_J (kk := fun _ => ?_) | refine z_K (kk := fun _ => ?_) | refine z_L (kk := fun _ => ?_) | refine z_T (kk := ?_) | refine z_F (kk := ?_) | refine z_r (kk := fun _ _ _ _ => ?_) | refine z_D (kk := ?_) | refine z_B (kk := ?_) | refine z_S (kk := ?_) | refine z_Q (kk := ?_) | refine z_1 (kk := ?_) | refine z_O (kk := ?_) | refine z_2 (kk := ?_) | refine z_AI (kk := fun _ => ?_) | refine z_AN (kk := fun _ => ?_) | refine z_AB (kk := fun _ => ?_) | refine z_PU (kk := fun _ => ?_) | refine z_PW (kk := fun _ => ?_) | refine z_g (kk := ?_) | refine z_h (kk := ?_)))
  refine Ops.alloc rfl rfl rfl rfl (fun w1 b2 hb2 => ?_)
  (repeat (first | with_reducible refine W.seq ?_ | with_reducible refine Ops.nil ?_ | with_reducible refine W.region ?_ | refine z_p (kk := ?_) | refine z_a (kk := ?_) | refine z_y (kk := ?_) | refine z_n (kk := ?_) | refine z_u (kk := ?_) | with_reducible refine W.skip ?_ | with_reducible refine W.endb ?_ | with_reducible refine W.block ?_ | refine W.exit rfl ?_ | refine z_l (kk := ?_) | refine z_f (kk := ?_) | refine z_M (kk := ?_) | refine z_m (kk := ?_) | refine z_e (kk := ?_) | refine z_E (kk := ?_) | refine z_d (kk := ?_) | refine z_I (kk := fun _ => ?_) | refine z_J (kk := fun _ => ?_) | refine z_K (kk := fun _ => ?_) | refine z_L (kk := fun _ => ?_) | refine z_T (kk := ?_) | refine z_F (kk := ?_) | refine z_r (kk := fun _ _ _ _ => ?_) | refine z_D (kk := ?_) | refine z_B (kk := ?_) | refine z_S (kk := ?_) | refine z_Q (kk := ?_) | refine z_1 (kk := ?_) | refine z_O (kk := ?_) | refine z_2 (kk := ?_) | refine z_AI (kk := fun _ => ?_) | refine z_AN (kk := fun _ => ?_) | refine z_AB (kk := fun _ => ?_) | refine z_PU (kk := fun _ => ?_) | refine z_PW (kk := fun _ => ?_) | refine z_g (kk := ?_) | refine z_h (kk := ?_)))
  refine Ops.alloc rfl rfl rfl rfl (fun w2 b4 hb4 => ?_)
  (repeat (first | with_reducible refine W.seq ?_ | with_reducible refine Ops.nil ?_ | with_reducible refine W.region ?_ | refine z_p (kk := ?_) | refine z_a (kk := ?_) | refine z_y (kk := ?_) | refine z_n (kk := ?_) | refine z_u (kk := ?_) | with_reducible refine W.skip ?_ | with_reducible refine W.endb ?_ | with_reducible refine W.block ?_ | refine W.exit rfl ?_ | refine z_l (kk := ?_) | refine z_f (kk := ?_) | refine z_M (kk := ?_) | refine z_m (kk := ?_) | refine z_e (kk := ?_) | refine z_E (kk := ?_) | refine z_d (kk := ?_) | refine z_I (kk := fun _ => ?_) | refine z_J (kk := fun _ => ?_) | refine z_K (kk := fun _ => ?_) | refine z_L (kk := fun _ => ?_) | refine z_T (kk := ?_) | refine z_F (kk := ?_) | refine z_r (kk := fun _ _ _ _ => ?_) | refine z_D (kk := ?_) | refine z_B (kk := ?_) | refine z_S (kk := ?_) | refine z_Q (kk := ?_) | refine z_1 (kk := ?_) | refine z_O (kk := ?_) | refine z_2 (kk := ?_) | refine z_AI (kk := fun _ => ?_) | refine z_AN (kk := fun _ => ?_) | refine z_AB (kk := fun _ => ?_) | refine z_PU (kk := fun _ => ?_) | refine z_PW (kk := fun _ => ?_) | refine z_g (kk := ?_) | refine z_h (kk := ?_)))
  refine Ops.alloc rfl rfl rfl rfl (fun w3 b5 hb5 => ?_)
  refine Ops.alloc rfl rfl rfl rfl (fun w4 b6 hb6 => ?_)
  have e2 := hb2.r_eq
  have e4 := hb4.r_eq
  have e5 := hb5.r_eq
  have e6 := hb6.r_eq
  have s2 := hb2.size
  have s4 := hb4.size
  have s5 := hb5.size
  have s6 := hb6.size
  have hS4 : S0 w b2 b4 b5 b6 (fun _ => 0) (fun _ => 0) (fun _ => 0) (fun _ => 0) w4 := by
    refine ⟨Below.put (Below.put (Below.put (Below.put (Below.refl _ _) hb2.kp (fun _ e => e.elim)) hb4.kp (fun _ e => e.elim)) hb5.kp (fun _ e => e.elim)) hb6.kp (fun _ e => e.elim), ?_, (AN.of_zero hb5.at_).kp hb6.kp (fun e => e), AN.of_zero hb6.at_, ?_⟩
    · have h1 : PV w2 b4 (fun _ => 0) (fun _ => 0) := hb4.at_
      exact (h1.kp hb5.kp (fun e => e)).kp hb6.kp (fun e => e)
    · have h1 : Blk w1 b2 (rng 16 fun _ => .int .i64 0).toArray 86 := hb2.at_
      exact ((h1.kp hb4.kp (fun e => e)).kp hb5.kp (fun e => e)).kp hb6.kp (fun e => e)
  have hlt6 : b6 < w4.heap.size := by omega
  clear hb2 hb4 hb5 hb6
  (repeat (first | with_reducible refine W.seq ?_ | with_reducible refine Ops.nil ?_ | with_reducible refine W.region ?_ | refine z_p (kk := ?_) | refine z_a (kk := ?_) | refine z_y (kk := ?_) | refine z_n (kk := ?_) | refine z_u (kk := ?_) | with_reducible refine W.skip ?_ | with_reducible refine W.endb ?_ | with_reducible refine W.block ?_ | refine W.exit rfl ?_ | refine z_l (kk := ?_) | refine z_f (kk := ?_) | refine z_M (kk := ?_) | refine z_m (kk := ?_) | refine z_e (kk := ?_) | refine z_E (kk := ?_) | refine z_d (kk := ?_) | refine z_I (kk := fun _ => ?_) | refine z_J (kk := fun _ => ?_) | refine z_K (kk := fun _ => ?_) | refine z_L (kk := fun _ => ?_) | refine z_T (kk := ?_) | refine z_F (kk := ?_) | refine z_r (kk := fun _ _ _ _ => ?_) | refine z_D (kk := ?_) | refine z_B (kk := ?_) | refine z_S (kk := ?_) | refine z_Q (kk := ?_) | refine z_1 (kk := ?_) | refine z_O (kk := ?_) | refine z_2 (kk := ?_) | refine z_AI (kk := fun _ => ?_) | refine z_AN (kk := fun _ => ?_) | refine z_AB (kk := fun _ => ?_) | refine z_PU (kk := fun _ => ?_) | refine z_PW (kk := fun _ => ?_) | refine z_g (kk := ?_) | refine z_h (kk := ?_)))
  refine W.loop (fun mm ρ w5 => ∃ (m : Nat) (u v : Nat → Int) (o fr : Nat → Nat), mm = c.length - m ∧ ρ = [(0, .slice Ac c.length cc), (2, .pointer (some ⟨b2, 0, none⟩)), (3, .int .i64 c.length), (4, .pointer (some ⟨b4, 0, none⟩)), (5, .pointer (some ⟨b5, 0, none⟩)), (6, .pointer (some ⟨b6, 0, none⟩)), (7, .int .i64 ((m + 1 : Nat) : Int))] ∧ PI (cst c) c.length m u v o ∧ S0 w b2 b4 b5 b6 u v o fr w5)
    ⟨_, _, ⟨0, _, _, _, _, rfl, rfl, ?_, hS4⟩, (by repeat (first | exact trivial | refine And.intro rfl ?_))⟩ ?_
  · exact ⟨Nat.zero_le _, fun j _ _ => Nat.le_refl _, fun j k _ _ _ _ _ h => absurd rfl h, fun b h1 h2 => by omega, fun b j h1 h2 => by omega, fun j _ _ h => absurd rfl h, fun j _ _ => Int.le_refl _, fun j _ _ => by simp, fun j _ _ _ => rfl, fun b _ => rfl, by simp⟩
  rintro mm ρ w5 ⟨m, u, v, o, fr, rfl, rfl, hPI, hS5⟩
  have hm := hPI.hm
  (repeat (first | with_reducible refine W.seq ?_ | with_reducible refine Ops.nil ?_ | with_reducible refine W.region ?_ | refine z_p (kk := ?_) | refine z_a (kk := ?_) | refine z_y (kk := ?_) | refine z_n (kk := ?_) | refine z_u (kk := ?_) | with_reducible refine W.skip ?_ | with_reducible refine W.endb ?_ | with_reducible refine W.block ?_ | refine W.exit rfl ?_ | refine z_l (kk := ?_) | refine z_f (kk := ?_) | refine z_M (kk := ?_) | refine z_m (kk := ?_) | refine z_e (kk := ?_) | refine z_E (kk := ?_) | refine z_d (kk := ?_) | refine z_I (kk := fun _ => ?_) | refine z_J (kk := fun _ => ?_) | refine z_K (kk := fun _ => ?_) | refine z_L (kk := fun _ => ?_) | refine z_T (kk := ?_) | refine z_F (kk := ?_) | refine z_r (kk := fun _ _ _ _ => ?_) | refine z_D (kk := ?_) | refine z_B (kk := ?_) | refine z_S (kk := ?_) | refine z_Q (kk := ?_) | refine z_1 (kk := ?_) | refine z_O (kk := ?_) | refine z_2 (kk := ?_) | refine z_AI (kk := fun _ => ?_) | refine z_AN (kk := fun _ => ?_) | refine z_AB (kk := fun _ => ?_) | refine z_PU (kk := fun _ => ?_) | refine z_PW (kk := fun _ => ?_) | refine z_g (kk := ?_) | refine z_h (kk := ?_)))
  (first | refine W.condD rfl (fun hc => ?_) (fun hc => ?_) | refine W.condE rfl (fun hc => ?_) (fun hc => ?_) | refine W.condN rfl (fun hc => ?_) (fun hc => ?_) | refine W.cond rfl (fun hc => ?_) (fun hc => ?_))
  · have hml : m < c.length := by omega
    (repeat (first | with_reducible refine W.seq ?_ | with_reducible refine Ops.nil ?_ | with_reducible refine W.region ?_ | refine z_p (kk := ?_) | refine z_a (kk := ?_) | refine z_y (kk := ?_) | refine z_n (kk := ?_) | refine z_u (kk := ?_) | with_reducible refine W.skip ?_ | with_reducible refine W.endb ?_ | with_reducible refine W.block ?_ | refine W.exit rfl ?_ | refine z_l (kk := ?_) | refine z_f (kk := ?_) | refine z_M (kk := ?_) | refine z_m (kk := ?_) | refine z_e (kk := ?_) | refine z_E (kk := ?_) | refine z_d (kk := ?_) | refine z_I (kk := fun _ => ?_) | refine z_J (kk := fun _ => ?_) | refine z_K (kk := fun _ => ?_) | refine z_L (kk := fun _ => ?_) | refine z_T (kk := ?_) | refine z_F (kk := ?_) | refine z_r (kk := fun _ _ _ _ => ?_) | refine z_D (kk := ?_) | refine z_B (kk := ?_) | refine z_S (kk := ?_) | refine z_Q (kk := ?_) | refine z_1 (kk := ?_) | refine z_O (kk := ?_) | refine z_2 (kk := ?_) | refine z_AI (kk := fun _ => ?_) | refine z_AN (kk := fun _ => ?_) | refine z_AB (kk := fun _ => ?_) | refine z_PU (kk := fun _ => ?_) | refine z_PW (kk := fun _ => ?_) | refine z_g (kk := ?_) | refine z_h (kk := ?_)))
    refine w_AN (i := 0) hS5.O (fun w6 p hO6 hk6 hs6 => ?_)
    have hQ0 := hPI.start (fr := fr) hml
    have hS6 : S0 w b2 b4 b5 b6 u v (upd o 0 (m + 1)) fr w6 := ⟨Below.put hS5.bel hk6 (fun i e => by omega), hS5.P.kp hk6 (fun e => by omega), hO6, hS5.R.kp hk6 (fun e => by omega), hS5.Z.kp hk6 (fun e => by omega)⟩
    clear hO6 hk6
    (repeat (first | with_reducible refine W.seq ?_ | with_reducible refine Ops.nil ?_ | with_reducible refine W.region ?_ | refine z_p (kk := ?_) | refine z_a (kk := ?_) | refine z_y (kk := ?_) | refine z_n (kk := ?_) | refine z_u (kk := ?_) | with_reducible refine W.skip ?_ | with_reducible refine W.endb ?_ | with_reducible refine W.block ?_ | refine W.exit rfl ?_ | refine z_l (kk := ?_) | refine z_f (kk := ?_) | refine z_M (kk := ?_) | refine z_m (kk := ?_) | refine z_e (kk := ?_) | refine z_E (kk := ?_) | refine z_d (kk := ?_) | refine z_I (kk := fun _ => ?_) | refine z_J (kk := fun _ => ?_) | refine z_K (kk := fun _ => ?_) | refine z_L (kk := fun _ => ?_) | refine z_T (kk := ?_) | refine z_F (kk := ?_) | refine z_r (kk := fun _ _ _ _ => ?_) | refine z_D (kk := ?_) | refine z_B (kk := ?_) | refine z_S (kk := ?_) | refine z_Q (kk := ?_) | refine z_1 (kk := ?_) | refine z_O (kk := ?_) | refine z_2 (kk := ?_) | refine z_AI (kk := fun _ => ?_) | refine z_AN (kk := fun _ => ?_) | refine z_AB (kk := fun _ => ?_) | refine z_PU (kk := fun _ => ?_) | refine z_PW (kk := fun _ => ?_) | refine z_g (kk := ?_) | refine z_h (kk := ?_)))
    refine Ops.evG rfl rfl rfl (EV.bld0 rfl rfl rfl rfl) ?_
    refine Ops.alloc rfl rfl rfl rfl (fun w7 b9 hb9 => ?_)
    refine Ops.stN (vs := rng 8 fun _ => .int .i64 0) (cs := rng 8 fun _ => .int .i64 0) rfl rfl rfl rfl rfl rfl (by intro v hv; obtain ⟨j, _, rfl⟩ := List.mem_map.1 hv; rfl) rfl hb9.at_ (fun w8 hu8 => ?_)
    have e9 := hb9.r_eq
    have s9 := hb9.size
    have s6' := hS6.bel.size
    have hlt65 : b6 < w6.heap.size := hS6.R.lt
    have hA8 : AI w8 b9 84 (fun _ => 0) := hu8.blk
    have hS8 : S0 w b2 b4 b5 b6 u v (upd o 0 (m + 1)) fr w8 := (hS6.kp hb9.kp (fun i e => e.elim)).kp hu8.kp (fun i e => by omega)
    have hlt9 : b9 < w8.heap.size := hA8.lt
    clear hu8
    (repeat (first | with_reducible refine W.seq ?_ | with_reducible refine Ops.nil ?_ | with_reducible refine W.region ?_ | refine z_p (kk := ?_) | refine z_a (kk := ?_) | refine z_y (kk := ?_) | refine z_n (kk := ?_) | refine z_u (kk := ?_) | with_reducible refine W.skip ?_ | with_reducible refine W.endb ?_ | with_reducible refine W.block ?_ | refine W.exit rfl ?_ | refine z_l (kk := ?_) | refine z_f (kk := ?_) | refine z_M (kk := ?_) | refine z_m (kk := ?_) | refine z_e (kk := ?_) | refine z_E (kk := ?_) | refine z_d (kk := ?_) | refine z_I (kk := fun _ => ?_) | refine z_J (kk := fun _ => ?_) | refine z_K (kk := fun _ => ?_) | refine z_L (kk := fun _ => ?_) | refine z_T (kk := ?_) | refine z_F (kk := ?_) | refine z_r (kk := fun _ _ _ _ => ?_) | refine z_D (kk := ?_) | refine z_B (kk := ?_) | refine z_S (kk := ?_) | refine z_Q (kk := ?_) | refine z_1 (kk := ?_) | refine z_O (kk := ?_) | refine z_2 (kk := ?_) | refine z_AI (kk := fun _ => ?_) | refine z_AN (kk := fun _ => ?_) | refine z_AB (kk := fun _ => ?_) | refine z_PU (kk := fun _ => ?_) | refine z_PW (kk := fun _ => ?_) | refine z_g (kk := ?_) | refine z_h (kk := ?_)))
    refine W.loop (fun mm ρ wl => ∃ (j : Nat), mm = 8 - j ∧ j ≤ 8 ∧ ρ = [(0, .slice Ac c.length cc), (2, .pointer (some ⟨b2, 0, none⟩)), (3, .int .i64 c.length), (4, .pointer (some ⟨b4, 0, none⟩)), (5, .pointer (some ⟨b5, 0, none⟩)), (6, .pointer (some ⟨b6, 0, none⟩)), (7, .int .i64 ((m + 1 : Nat) : Int)), (8, .int .i64 ((0 : Nat) : Int)), (9, .pointer (some ⟨b9, 0, none⟩)), (28, .int .i64 j)] ∧ S0 w b2 b4 b5 b6 u v (upd o 0 (m + 1)) fr wl ∧ AI wl b9 84 (fun q => if q < j then 1099511627776 else 0))
      ⟨_, _, ⟨0, rfl, Nat.zero_le _, rfl, hS8, by simpa using hA8⟩, (by repeat (first | exact trivial | refine And.intro rfl ?_))⟩ ?_
    rintro mm ρ wl ⟨j, rfl, hj, rfl, hSl, hAl⟩
    (repeat (first | with_reducible refine W.seq ?_ | with_reducible refine Ops.nil ?_ | with_reducible refine W.region ?_ | refine z_p (kk := ?_) | refine z_a (kk := ?_) | refine z_y (kk := ?_) | refine z_n (kk := ?_) | refine z_u (kk := ?_) | with_reducible refine W.skip ?_ | with_reducible refine W.endb ?_ | with_reducible refine W.block ?_ | refine W.exit rfl ?_ | refine z_l (kk := ?_) | refine z_f (kk := ?_) | refine z_M (kk := ?_) | refine z_m (kk := ?_) | refine z_e (kk := ?_) | refine z_E (kk := ?_) | refine z_d (kk := ?_) | refine z_I (kk := fun _ => ?_) | refine z_J (kk := fun _ => ?_) | refine z_K (kk := fun _ => ?_) | refine z_L (kk := fun _ => ?_) | refine z_T (kk := ?_) | refine z_F (kk := ?_) | refine z_r (kk := fun _ _ _ _ => ?_) | refine z_D (kk := ?_) | refine z_B (kk := ?_) | refine z_S (kk := ?_) | refine z_Q (kk := ?_) | refine z_1 (kk := ?_) | refine z_O (kk := ?_) | refine z_2 (kk := ?_) | refine z_AI (kk := fun _ => ?_) | refine z_AN (kk := fun _ => ?_) | refine z_AB (kk := fun _ => ?_) | refine z_PU (kk := fun _ => ?_) | refine z_PW (kk := fun _ => ?_) | refine z_g (kk := ?_) | refine z_h (kk := ?_)))
    (first | refine W.condD rfl (fun hc => ?_) (fun hc => ?_) | refine W.condE rfl (fun hc => ?_) (fun hc => ?_) | refine W.condN rfl (fun hc => ?_) (fun hc => ?_) | refine W.cond rfl (fun hc => ?_) (fun hc => ?_))
    · have hjl : j < 8 := by omega
      (repeat (first | with_reducible refine W.seq ?_ | with_reducible refine Ops.nil ?_ | with_reducible refine W.region ?_ | refine z_p (kk := ?_) | refine z_a (kk := ?_) | refine z_y (kk := ?_) | refine z_n (kk := ?_) | refine z_u (kk := ?_) | with_reducible refine W.skip ?_ | with_reducible refine W.endb ?_ | with_reducible refine W.block ?_ | refine W.exit rfl ?_ | refine z_l (kk := ?_) | refine z_f (kk := ?_) | refine z_M (kk := ?_) | refine z_m (kk := ?_) | refine z_e (kk := ?_) | refine z_E (kk := ?_) | refine z_d (kk := ?_) | refine z_I (kk := fun _ => ?_) | refine z_J (kk := fun _ => ?_) | refine z_K (kk := fun _ => ?_) | refine z_L (kk := fun _ => ?_) | refine z_T (kk := ?_) | refine z_F (kk := ?_) | refine z_r (kk := fun _ _ _ _ => ?_) | refine z_D (kk := ?_) | refine z_B (kk := ?_) | refine z_S (kk := ?_) | refine z_Q (kk := ?_) | refine z_1 (kk := ?_) | refine z_O (kk := ?_) | refine z_2 (kk := ?_) | refine z_AI (kk := fun _ => ?_) | refine z_AN (kk := fun _ => ?_) | refine z_AB (kk := fun _ => ?_) | refine z_PU (kk := fun _ => ?_) | refine z_PW (kk := fun _ => ?_) | refine z_g (kk := ?_) | refine z_h (kk := ?_)))
      refine w_AI (i := j) hAl (fun wa p hAa hka hsa => ?_)
      (repeat (first | with_reducible refine W.seq ?_ | with_reducible refine Ops.nil ?_ | with_reducible refine W.region ?_ | refine z_p (kk := ?_) | refine z_a (kk := ?_) | refine z_y (kk := ?_) | refine z_n (kk := ?_) | refine z_u (kk := ?_) | with_reducible refine W.skip ?_ | with_reducible refine W.endb ?_ | with_reducible refine W.block ?_ | refine W.exit rfl ?_ | refine z_l (kk := ?_) | refine z_f (kk := ?_) | refine z_M (kk := ?_) | refine z_m (kk := ?_) | refine z_e (kk := ?_) | refine z_E (kk := ?_) | refine z_d (kk := ?_) | refine z_I (kk := fun _ => ?_) | refine z_J (kk := fun _ => ?_) | refine z_K (kk := fun _ => ?_) | refine z_L (kk := fun _ => ?_) | refine z_T (kk := ?_) | refine z_F (kk := ?_) | refine z_r (kk := fun _ _ _ _ => ?_) | refine z_D (kk := ?_) | refine z_B (kk := ?_) | refine z_S (kk := ?_) | refine z_Q (kk := ?_) | refine z_1 (kk := ?_) | refine z_O (kk := ?_) | refine z_2 (kk := ?_) | refine z_AI (kk := fun _ => ?_) | refine z_AN (kk := fun _ => ?_) | refine z_AB (kk := fun _ => ?_) | refine z_PU (kk := fun _ => ?_) | refine z_PW (kk := fun _ => ?_) | refine z_g (kk := ?_) | refine z_h (kk := ?_)))
      refine W.endl ⟨_, _, ⟨⟨j + 1, rfl, by omega, rfl, hSl.kp hka (fun i e => by have := hS6.bel.size; omega), hAa.congr (fun q hq => ?_)⟩, by omega⟩, (by repeat (first | exact trivial | refine And.intro rfl ?_))⟩
      unfold upd
      by_cases e : q = j
      · subst e; simp
      · have : (q < j + 1) = (q < j) := propext (by omega)
        simp only [e, if_false, this]
    · have hjl : j = 8 := by omega
      subst hjl
      have hAl' : AI wl b9 84 (fun _ => 1099511627776) := hAl.congr (fun q hq => if_pos hq)
      clear hAl hA8 hS8
      have hlt9l : b9 < wl.heap.size := hAl'.lt
      (repeat (first | with_reducible refine W.seq ?_ | with_reducible refine Ops.nil ?_ | with_reducible refine W.region ?_ | refine z_p (kk := ?_) | refine z_a (kk := ?_) | refine z_y (kk := ?_) | refine z_n (kk := ?_) | refine z_u (kk := ?_) | with_reducible refine W.skip ?_ | with_reducible refine W.endb ?_ | with_reducible refine W.block ?_ | refine W.exit rfl ?_ | refine z_l (kk := ?_) | refine z_f (kk := ?_) | refine z_M (kk := ?_) | refine z_m (kk := ?_) | refine z_e (kk := ?_) | refine z_E (kk := ?_) | refine z_d (kk := ?_) | refine z_I (kk := fun _ => ?_) | refine z_J (kk := fun _ => ?_) | refine z_K (kk := fun _ => ?_) | refine z_L (kk := fun _ => ?_) | refine z_T (kk := ?_) | refine z_F (kk := ?_) | refine z_r (kk := fun _ _ _ _ => ?_) | refine z_D (kk := ?_) | refine z_B (kk := ?_) | refine z_S (kk := ?_) | refine z_Q (kk := ?_) | refine z_1 (kk := ?_) | refine z_O (kk := ?_) | refine z_2 (kk := ?_) | refine z_AI (kk := fun _ => ?_) | refine z_AN (kk := fun _ => ?_) | refine z_AB (kk := fun _ => ?_) | refine z_PU (kk := fun _ => ?_) | refine z_PW (kk := fun _ => ?_) | refine z_g (kk := ?_) | refine z_h (kk := ?_)))
      refine Ops.alloc rfl rfl rfl rfl (fun wm b11 hb11 => ?_)
      have e11 := hb11.r_eq
      have s11 := hb11.size
      have hUm := AB.of_zero hb11.at_
      have hSm := hSl.kp hb11.kp (fun i e => e.elim)
      have hAm := hAl'.kp hb11.kp (fun e => e)
      clear hAl' hSl
      (repeat (first | with_reducible refine W.seq ?_ | with_reducible refine Ops.nil ?_ | with_reducible refine W.region ?_ | refine z_p (kk := ?_) | refine z_a (kk := ?_) | refine z_y (kk := ?_) | refine z_n (kk := ?_) | refine z_u (kk := ?_) | with_reducible refine W.skip ?_ | with_reducible refine W.endb ?_ | with_reducible refine W.block ?_ | refine W.exit rfl ?_ | refine z_l (kk := ?_) | refine z_f (kk := ?_) | refine z_M (kk := ?_) | refine z_m (kk := ?_) | refine z_e (kk := ?_) | refine z_E (kk := ?_) | refine z_d (kk := ?_) | refine z_I (kk := fun _ => ?_) | refine z_J (kk := fun _ => ?_) | refine z_K (kk := fun _ => ?_) | refine z_L (kk := fun _ => ?_) | refine z_T (kk := ?_) | refine z_F (kk := ?_) | refine z_r (kk := fun _ _ _ _ => ?_) | refine z_D (kk := ?_) | refine z_B (kk := ?_) | refine z_S (kk := ?_) | refine z_Q (kk := ?_) | refine z_1 (kk := ?_) | refine z_O (kk := ?_) | refine z_2 (kk := ?_) | refine z_AI (kk := fun _ => ?_) | refine z_AN (kk := fun _ => ?_) | refine z_AB (kk := fun _ => ?_) | refine z_PU (kk := fun _ => ?_) | refine z_PW (kk := fun _ => ?_) | refine z_g (kk := ?_) | refine z_h (kk := ?_)))
      refine W.loop (fun mm ρ wq => ∃ (hole : Nat) (u v far : Nat → Int) (fr : Nat → Nat) (us : Nat → Bool), mm = c.length + 1 - cntB us (c.length + 1) ∧ ρ = [(0, .slice Ac c.length cc), (2, .pointer (some ⟨b2, 0, none⟩)), (3, .int .i64 c.length), (4, .pointer (some ⟨b4, 0, none⟩)), (5, .pointer (some ⟨b5, 0, none⟩)), (6, .pointer (some ⟨b6, 0, none⟩)), (7, .int .i64 ((m + 1 : Nat) : Int)), (8, .int .i64 (hole : Int)), (9, .pointer (some ⟨b9, 0, none⟩)), (11, .pointer (some ⟨b11, 0, none⟩))] ∧ QI (cst c) c.length m u v far (upd o 0 (m + 1)) fr us hole ∧ S0 w b2 b4 b5 b6 u v (upd o 0 (m + 1)) fr wq ∧ AI wq b9 84 far ∧ AB wq b11 110 us)
        ⟨_, _, ⟨0, u, v, _, fr, _, rfl, rfl, hQ0, hSm, hAm, hUm⟩, (by repeat (first | exact trivial | refine And.intro rfl ?_))⟩ ?_
      clear hQ0 hSm hAm hUm
      rintro mm ρ wq ⟨hole, u, v, far, fr, us, rfl, rfl, hQ, hSq, hAq, hUq⟩
      generalize hoo : upd o 0 (m + 1) = oo at hQ hSq
      obtain ⟨bv, bu, bf⟩ := hQ.bounds hcb hn7
      have hhn := hQ.hn
      have hOq := hSq.O
      (repeat (first | with_reducible refine W.seq ?_ | with_reducible refine Ops.nil ?_ | with_reducible refine W.region ?_ | refine z_p (kk := ?_) | refine z_a (kk := ?_) | refine z_y (kk := ?_) | refine z_n (kk := ?_) | refine z_u (kk := ?_) | with_reducible refine W.skip ?_ | with_reducible refine W.endb ?_ | with_reducible refine W.block ?_ | refine W.exit rfl ?_ | refine z_l (kk := ?_) | refine z_f (kk := ?_) | refine z_M (kk := ?_) | refine z_m (kk := ?_) | refine z_e (kk := ?_) | refine z_E (kk := ?_) | refine z_d (kk := ?_) | refine z_I (kk := fun _ => ?_) | refine z_J (kk := fun _ => ?_) | refine z_K (kk := fun _ => ?_) | refine z_L (kk := fun _ => ?_) | refine z_T (kk := ?_) | refine z_F (kk := ?_) | refine z_r (kk := fun _ _ _ _ => ?_) | refine z_D (kk := ?_) | refine z_B (kk := ?_) | refine z_S (kk := ?_) | refine z_Q (kk := ?_) | refine z_1 (kk := ?_) | refine z_O (kk := ?_) | refine z_2 (kk := ?_) | refine z_AI (kk := fun _ => ?_) | refine z_AN (kk := fun _ => ?_) | refine z_AB (kk := fun _ => ?_) | refine z_PU (kk := fun _ => ?_) | refine z_PW (kk := fun _ => ?_) | refine z_g (kk := ?_) | refine z_h (kk := ?_)))
      refine W.cond rfl (fun hc => ?_) (fun hc => ?_)
      · have hz : oo hole ≠ 0 := by simpa using hc
        have hob : 1 ≤ oo hole ∧ oo hole ≤ c.length := by
          have h0 := hQ.o0
          by_cases e : hole = 0
          · subst e; omega
          · have := hQ.im hole (by omega) hhn; omega
        have hrowl : (row c ((oo hole : Int) - 1)).length = c.length := hC.len ((oo hole : Int) - 1).toNat (by omega)
        have hraw : ∀ J : Nat, 1 ≤ J → (row c ((oo hole : Int) - 1)).getD ((J : Int) - 1).toNat 0 = cst c (oo hole) J := fun J hJ => by
          unfold cst row
          rw [show ((oo hole : Int) - 1).toNat = oo hole - 1 by omega, show ((J : Int) - 1).toNat = J - 1 by omega]
        have hcnt := cntB_upd hQ.hu (c.length + 1)
        rw [if_pos (by omega)] at hcnt
        have hcl := cntB_le (upd us hole true) (c.length + 1)
        have hUf : ∀ j, upd us hole true j = false → us j = false := fun j hj => by
          unfold upd at hj
          split at hj
          · cases hj
          · exact hj
        have h56 := hSq.bel.size
        (repeat (first | with_reducible refine W.seq ?_ | with_reducible refine Ops.nil ?_ | with_reducible refine W.region ?_ | refine z_p (kk := ?_) | refine z_a (kk := ?_) | refine z_y (kk := ?_) | refine z_n (kk := ?_) | refine z_u (kk := ?_) | with_reducible refine W.skip ?_ | with_reducible refine W.endb ?_ | with_reducible refine W.block ?_ | refine W.exit rfl ?_ | refine z_l (kk := ?_) | refine z_f (kk := ?_) | refine z_M (kk := ?_) | refine z_m (kk := ?_) | refine z_e (kk := ?_) | refine z_E (kk := ?_) | refine z_d (kk := ?_) | refine z_I (kk := fun _ => ?_) | refine z_J (kk := fun _ => ?_) | refine z_K (kk := fun _ => ?_) | refine z_L (kk := fun _ => ?_) | refine z_T (kk := ?_) | refine z_F (kk := ?_) | refine z_r (kk := fun _ _ _ _ => ?_) | refine z_D (kk := ?_) | refine z_B (kk := ?_) | refine z_S (kk := ?_) | refine z_Q (kk := ?_) | refine z_1 (kk := ?_) | refine z_O (kk := ?_) | refine z_2 (kk := ?_) | refine z_AI (kk := fun _ => ?_) | refine z_AN (kk := fun _ => ?_) | refine z_AB (kk := fun _ => ?_) | refine z_PU (kk := fun _ => ?_) | refine z_PW (kk := fun _ => ?_) | refine z_g (kk := ?_) | refine z_h (kk := ?_)))
        refine w_AB (i := hole) hUq (fun wr p hUr hkr hsr => ?_)
        have hSr := hSq.kp hkr (fun i e => by omega)
        have hAr := hAq.kp hkr (fun e => by omega)
        clear hUq hSq hAq hkr hOq
        have hOr := hSr.O
        (repeat (first | with_reducible refine W.seq ?_ | with_reducible refine Ops.nil ?_ | with_reducible refine W.region ?_ | refine z_p (kk := ?_) | refine z_a (kk := ?_) | refine z_y (kk := ?_) | refine z_n (kk := ?_) | refine z_u (kk := ?_) | with_reducible refine W.skip ?_ | with_reducible refine W.endb ?_ | with_reducible refine W.block ?_ | refine W.exit rfl ?_ | refine z_l (kk := ?_) | refine z_f (kk := ?_) | refine z_M (kk := ?_) | refine z_m (kk := ?_) | refine z_e (kk := ?_) | refine z_E (kk := ?_) | refine z_d (kk := ?_) | refine z_I (kk := fun _ => ?_) | refine z_J (kk := fun _ => ?_) | refine z_K (kk := fun _ => ?_) | refine z_L (kk := fun _ => ?_) | refine z_T (kk := ?_) | refine z_F (kk := ?_) | refine z_r (kk := fun _ _ _ _ => ?_) | refine z_D (kk := ?_) | refine z_B (kk := ?_) | refine z_S (kk := ?_) | refine z_Q (kk := ?_) | refine z_1 (kk := ?_) | refine z_O (kk := ?_) | refine z_2 (kk := ?_) | refine z_AI (kk := fun _ => ?_) | refine z_AN (kk := fun _ => ?_) | refine z_AB (kk := fun _ => ?_) | refine z_PU (kk := fun _ => ?_) | refine z_PW (kk := fun _ => ?_) | refine z_g (kk := ?_) | refine z_h (kk := ?_)))
        refine W.loop (fun mm ρ ws => ∃ (J : Nat) (far' : Nat → Int) (fr' : Nat → Nat) (least : Int) (next : Nat), mm = c.length + 1 - J ∧ 1 ≤ J ∧ J ≤ c.length + 1 ∧ ρ = [(0, .slice Ac c.length cc), (2, .pointer (some ⟨b2, 0, none⟩)), (3, .int .i64 c.length), (4, .pointer (some ⟨b4, 0, none⟩)), (5, .pointer (some ⟨b5, 0, none⟩)), (6, .pointer (some ⟨b6, 0, none⟩)), (7, .int .i64 ((m + 1 : Nat) : Int)), (8, .int .i64 (hole : Int)), (9, .pointer (some ⟨b9, 0, none⟩)), (11, .pointer (some ⟨b11, 0, none⟩)), (12, .int .i64 (oo hole : Int)), (13, .int .i64 least), (14, .int .i64 (next : Int)), (15, .int .i64 (J : Int))] ∧ Scan c.length (upd us hole true) hole (fun j => cst c (oo hole) j - u (oo hole) - v j) far fr far' fr' least next J ∧ S0 w b2 b4 b5 b6 u v oo fr' ws ∧ AI ws b9 84 far' ∧ AB ws b11 110 (upd us hole true))
          ⟨_, _, ⟨1, far, fr, _, 0, rfl, Nat.le_refl _, by omega, rfl, Scan.start, hSr, hAr, hUr⟩, (by repeat (first | exact trivial | refine And.intro rfl ?_))⟩ ?_
        clear hSr hAr hUr hOr
        rintro mm ρ ws ⟨J, far', fr', least, next, rfl, hJ1, hJn, rfl, hSc, hSs, hAs, hUs⟩
        have hOs := hSs.O
        have hPs := hSs.P
        have hRs := hSs.R
        have hbs := hSs.bel
        have h56s := hbs.size
        (repeat (first | with_reducible refine W.seq ?_ | with_reducible refine Ops.nil ?_ | with_reducible refine W.region ?_ | refine z_p (kk := ?_) | refine z_a (kk := ?_) | refine z_y (kk := ?_) | refine z_n (kk := ?_) | refine z_u (kk := ?_) | with_reducible refine W.skip ?_ | with_reducible refine W.endb ?_ | with_reducible refine W.block ?_ | refine W.exit rfl ?_ | refine z_l (kk := ?_) | refine z_f (kk := ?_) | refine z_M (kk := ?_) | refine z_m (kk := ?_) | refine z_e (kk := ?_) | refine z_E (kk := ?_) | refine z_d (kk := ?_) | refine z_I (kk := fun _ => ?_) | refine z_J (kk := fun _ => ?_) | refine z_K (kk := fun _ => ?_) | refine z_L (kk := fun _ => ?_) | refine z_T (kk := ?_) | refine z_F (kk := ?_) | refine z_r (kk := fun _ _ _ _ => ?_) | refine z_D (kk := ?_) | refine z_B (kk := ?_) | refine z_S (kk := ?_) | refine z_Q (kk := ?_) | refine z_1 (kk := ?_) | refine z_O (kk := ?_) | refine z_2 (kk := ?_) | refine z_AI (kk := fun _ => ?_) | refine z_AN (kk := fun _ => ?_) | refine z_AB (kk := fun _ => ?_) | refine z_PU (kk := fun _ => ?_) | refine z_PW (kk := fun _ => ?_) | refine z_g (kk := ?_) | refine z_h (kk := ?_)))
        (first | refine W.condD rfl (fun hc => ?_) (fun hc => ?_) | refine W.condE rfl (fun hc => ?_) (fun hc => ?_) | refine W.condN rfl (fun hc => ?_) (fun hc => ?_) | refine W.cond rfl (fun hc => ?_) (fun hc => ?_))
        · have hJl : J ≤ c.length := by omega
          cases hus : upd us hole true J with
          | true =>
            (repeat (first | with_reducible refine W.seq ?_ | with_reducible refine Ops.nil ?_ | with_reducible refine W.region ?_ | refine z_p (kk := ?_) | refine z_a (kk := ?_) | refine z_y (kk := ?_) | refine z_n (kk := ?_) | refine z_u (kk := ?_) | with_reducible refine W.skip ?_ | with_reducible refine W.endb ?_ | with_reducible refine W.block ?_ | refine W.exit rfl ?_ | refine z_l (kk := ?_) | refine z_f (kk := ?_) | refine z_M (kk := ?_) | refine z_m (kk := ?_) | refine z_e (kk := ?_) | refine z_E (kk := ?_) | refine z_d (kk := ?_) | refine z_I (kk := fun _ => ?_) | refine z_J (kk := fun _ => ?_) | refine z_K (kk := fun _ => ?_) | refine z_L (kk := fun _ => ?_) | refine z_T (kk := ?_) | refine z_F (kk := ?_) | refine z_r (kk := fun _ _ _ _ => ?_) | refine z_D (kk := ?_) | refine z_B (kk := ?_) | refine z_S (kk := ?_) | refine z_Q (kk := ?_) | refine z_1 (kk := ?_) | refine z_O (kk := ?_) | refine z_2 (kk := ?_) | refine z_AI (kk := fun _ => ?_) | refine z_AN (kk := fun _ => ?_) | refine z_AB (kk := fun _ => ?_) | refine z_PU (kk := fun _ => ?_) | refine z_PW (kk := fun _ => ?_) | refine z_g (kk := ?_) | refine z_h (kk := ?_)))
            refine W.condT rfl (by first | rfl | assumption | (simp only [bnf] <;> omega) | (simp only [*, bnf]; done) | fail) ?_
            (repeat (first | with_reducible refine W.seq ?_ | with_reducible refine Ops.nil ?_ | with_reducible refine W.region ?_ | refine z_p (kk := ?_) | refine z_a (kk := ?_) | refine z_y (kk := ?_) | refine z_n (kk := ?_) | refine z_u (kk := ?_) | with_reducible refine W.skip ?_ | with_reducible refine W.endb ?_ | with_reducible refine W.block ?_ | refine W.exit rfl ?_ | refine z_l (kk := ?_) | refine z_f (kk := ?_) | refine z_M (kk := ?_) | refine z_m (kk := ?_) | refine z_e (kk := ?_) | refine z_E (kk := ?_) | refine z_d (kk := ?_) | refine z_I (kk := fun _ => ?_) | refine z_J (kk := fun _ => ?_) | refine z_K (kk := fun _ => ?_) | refine z_L (kk := fun _ => ?_) | refine z_T (kk := ?_) | refine z_F (kk := ?_) | refine z_r (kk := fun _ _ _ _ => ?_) | refine z_D (kk := ?_) | refine z_B (kk := ?_) | refine z_S (kk := ?_) | refine z_Q (kk := ?_) | refine z_1 (kk := ?_) | refine z_O (kk := ?_) | refine z_2 (kk := ?_) | refine z_AI (kk := fun _ => ?_) | refine z_AN (kk := fun _ => ?_) | refine z_AB (kk := fun _ => ?_) | refine z_PU (kk := fun _ => ?_) | refine z_PW (kk := fun _ => ?_) | refine z_g (kk := ?_) | refine z_h (kk := ?_)))
            exact W.endl ⟨_, _, ⟨⟨J + 1, far', fr', least, next, rfl, by omega, by omega, rfl, hSc.skip hus, hSs, hAs, hUs⟩, by omega⟩, (by repeat (first | exact trivial | refine And.intro rfl ?_))⟩
          | false =>
            have hcij := hcb (oo hole) J hob.1 hob.2 hJ1 hJl
            rw [← hraw J hJ1] at hcij
            have hvJ := bv J hJl
            have huH := bu (oo hole) hob.1
            (repeat (first | with_reducible refine W.seq ?_ | with_reducible refine Ops.nil ?_ | with_reducible refine W.region ?_ | refine z_p (kk := ?_) | refine z_a (kk := ?_) | refine z_y (kk := ?_) | refine z_n (kk := ?_) | refine z_u (kk := ?_) | with_reducible refine W.skip ?_ | with_reducible refine W.endb ?_ | with_reducible refine W.block ?_ | refine W.exit rfl ?_ | refine z_l (kk := ?_) | refine z_f (kk := ?_) | refine z_M (kk := ?_) | refine z_m (kk := ?_) | refine z_e (kk := ?_) | refine z_E (kk := ?_) | refine z_d (kk := ?_) | refine z_I (kk := fun _ => ?_) | refine z_J (kk := fun _ => ?_) | refine z_K (kk := fun _ => ?_) | refine z_L (kk := fun _ => ?_) | refine z_T (kk := ?_) | refine z_F (kk := ?_) | refine z_r (kk := fun _ _ _ _ => ?_) | refine z_D (kk := ?_) | refine z_B (kk := ?_) | refine z_S (kk := ?_) | refine z_Q (kk := ?_) | refine z_1 (kk := ?_) | refine z_O (kk := ?_) | refine z_2 (kk := ?_) | refine z_AI (kk := fun _ => ?_) | refine z_AN (kk := fun _ => ?_) | refine z_AB (kk := fun _ => ?_) | refine z_PU (kk := fun _ => ?_) | refine z_PW (kk := fun _ => ?_) | refine z_g (kk := ?_) | refine z_h (kk := ?_)))
            refine W.condF rfl (by first | rfl | assumption | (simp only [bnf] <;> omega) | (simp only [*, bnf]; done) | fail) ?_
            (repeat (first | with_reducible refine W.seq ?_ | with_reducible refine Ops.nil ?_ | with_reducible refine W.region ?_ | refine z_p (kk := ?_) | refine z_a (kk := ?_) | refine z_y (kk := ?_) | refine z_n (kk := ?_) | refine z_u (kk := ?_) | with_reducible refine W.skip ?_ | with_reducible refine W.endb ?_ | with_reducible refine W.block ?_ | refine W.exit rfl ?_ | refine z_l (kk := ?_) | refine z_f (kk := ?_) | refine z_M (kk := ?_) | refine z_m (kk := ?_) | refine z_e (kk := ?_) | refine z_E (kk := ?_) | refine z_d (kk := ?_) | refine z_I (kk := fun _ => ?_) | refine z_J (kk := fun _ => ?_) | refine z_K (kk := fun _ => ?_) | refine z_L (kk := fun _ => ?_) | refine z_T (kk := ?_) | refine z_F (kk := ?_) | refine z_r (kk := fun _ _ _ _ => ?_) | refine z_D (kk := ?_) | refine z_B (kk := ?_) | refine z_S (kk := ?_) | refine z_Q (kk := ?_) | refine z_1 (kk := ?_) | refine z_O (kk := ?_) | refine z_2 (kk := ?_) | refine z_AI (kk := fun _ => ?_) | refine z_AN (kk := fun _ => ?_) | refine z_AB (kk := fun _ => ?_) | refine z_PU (kk := fun _ => ?_) | refine z_PW (kk := fun _ => ?_) | refine z_g (kk := ?_) | refine z_h (kk := ?_)))
            refine W.ordA 99 [(0, 1), (1, 1), (2, 1), (3, 1), (4, 2), (5, 1), (6, 1), (7, 1), (8, 2), (9, 1), (10, 1), (11, 1), (12, 2), (13, 1), (14, 1), (15, 1), (16, 1), (17, 2), (18, 1), (19, 1)] rfl (by kernel_rfl) rfl (by kernel_rfl) (fun _ _ _ h => h) ?_
            (repeat (first | refine x_p (kk := ?_) | refine x_n (kk := ?_) | refine x_a (kk := ?_) | refine x_l (kk := ?_) | refine x_M (kk := ?_) | refine x_m (kk := ?_) | refine x_e (kk := ?_) | refine x_E (kk := ?_) | refine x_T (kk := ?_) | refine x_F (kk := ?_) | refine x_I (kk := fun _ => ?_) | refine x_J (kk := fun _ => ?_) | refine x_K (kk := fun _ => ?_) | refine x_L (kk := fun _ => ?_) | refine x_r (kk := fun _ _ _ _ => ?_) | refine x_D (kk := ?_) | refine x_P (kk := ?_) | refine x_B (kk := ?_) | refine x_S (kk := ?_) | refine x_O (kk := ?_) | refine x_PU (kk := fun _ => ?_) | refine x_PW (kk := fun _ => ?_) | refine x_t (kk := ?_) | refine x_f (kk := ?_)))
            refine OrdA.nil (fun wt hbt => ?_)
            rw [hraw J hJ1]
            have kt : Kp (fun _ => False) ws wt := Kp.of_below hbt
            have hSt := hSs.kp kt (fun i e => e.elim)
            have hAt := hAs.kp kt (fun e => e)
            have hUt := hUs.kp kt (fun e => e)
            clear hSs hAs hUs hOs hPs hRs hbs
            have hRt := hSt.R
            have hOt := hSt.O
            have hPt := hSt.P
            have hZt := hSt.Z
            have hbt' := hSt.bel
            have h56t := hbt'.size
            by_cases hd : cst c (oo hole) J - u (oo hole) - v J < far' J
            · (repeat (first | with_reducible refine W.seq ?_ | with_reducible refine Ops.nil ?_ | with_reducible refine W.region ?_ | refine z_p (kk := ?_) | refine z_a (kk := ?_) | refine z_y (kk := ?_) | refine z_n (kk := ?_) | refine z_u (kk := ?_) | with_reducible refine W.skip ?_ | with_reducible refine W.endb ?_ | with_reducible refine W.block ?_ | refine W.exit rfl ?_ | refine z_l (kk := ?_) | refine z_f (kk := ?_) | refine z_M (kk := ?_) | refine z_m (kk := ?_) | refine z_e (kk := ?_) | refine z_E (kk := ?_) | refine z_d (kk := ?_) | refine z_I (kk := fun _ => ?_) | refine z_J (kk := fun _ => ?_) | refine z_K (kk := fun _ => ?_) | refine z_L (kk := fun _ => ?_) | refine z_T (kk := ?_) | refine z_F (kk := ?_) | refine z_r (kk := fun _ _ _ _ => ?_) | refine z_D (kk := ?_) | refine z_B (kk := ?_) | refine z_S (kk := ?_) | refine z_Q (kk := ?_) | refine z_1 (kk := ?_) | refine z_O (kk := ?_) | refine z_2 (kk := ?_) | refine z_AI (kk := fun _ => ?_) | refine z_AN (kk := fun _ => ?_) | refine z_AB (kk := fun _ => ?_) | refine z_PU (kk := fun _ => ?_) | refine z_PW (kk := fun _ => ?_) | refine z_g (kk := ?_) | refine z_h (kk := ?_)))
              refine W.condT rfl (by first | rfl | assumption | (simp only [bnf] <;> omega) | (simp only [*, bnf]; done) | fail) ?_
              (repeat (first | with_reducible refine W.seq ?_ | with_reducible refine Ops.nil ?_ | with_reducible refine W.region ?_ | refine z_p (kk := ?_) | refine z_a (kk := ?_) | refine z_y (kk := ?_) | refine z_n (kk := ?_) | refine z_u (kk := ?_) | with_reducible refine W.skip ?_ | with_reducible refine W.endb ?_ | with_reducible refine W.block ?_ | refine W.exit rfl ?_ | refine z_l (kk := ?_) | refine z_f (kk := ?_) | refine z_M (kk := ?_) | refine z_m (kk := ?_) | refine z_e (kk := ?_) | refine z_E (kk := ?_) | refine z_d (kk := ?_) | refine z_I (kk := fun _ => ?_) | refine z_J (kk := fun _ => ?_) | refine z_K (kk := fun _ => ?_) | refine z_L (kk := fun _ => ?_) | refine z_T (kk := ?_) | refine z_F (kk := ?_) | refine z_r (kk := fun _ _ _ _ => ?_) | refine z_D (kk := ?_) | refine z_B (kk := ?_) | refine z_S (kk := ?_) | refine z_Q (kk := ?_) | refine z_1 (kk := ?_) | refine z_O (kk := ?_) | refine z_2 (kk := ?_) | refine z_AI (kk := fun _ => ?_) | refine z_AN (kk := fun _ => ?_) | refine z_AB (kk := fun _ => ?_) | refine z_PU (kk := fun _ => ?_) | refine z_PW (kk := fun _ => ?_) | refine z_g (kk := ?_) | refine z_h (kk := ?_)))
              refine w_AI (i := J) hAt (fun wx p hAx hkx hsx => ?_)
              have hRx := hRt.kp hkx (fun e => by omega)
              (repeat (first | with_reducible refine W.seq ?_ | with_reducible refine Ops.nil ?_ | with_reducible refine W.region ?_ | refine z_p (kk := ?_) | refine z_a (kk := ?_) | refine z_y (kk := ?_) | refine z_n (kk := ?_) | refine z_u (kk := ?_) | with_reducible refine W.skip ?_ | with_reducible refine W.endb ?_ | with_reducible refine W.block ?_ | refine W.exit rfl ?_ | refine z_l (kk := ?_) | refine z_f (kk := ?_) | refine z_M (kk := ?_) | refine z_m (kk := ?_) | refine z_e (kk := ?_) | refine z_E (kk := ?_) | refine z_d (kk := ?_) | refine z_I (kk := fun _ => ?_) | refine z_J (kk := fun _ => ?_) | refine z_K (kk := fun _ => ?_) | refine z_L (kk := fun _ => ?_) | refine z_T (kk := ?_) | refine z_F (kk := ?_) | refine z_r (kk := fun _ _ _ _ => ?_) | refine z_D (kk := ?_) | refine z_B (kk := ?_) | refine z_S (kk := ?_) | refine z_Q (kk := ?_) | refine z_1 (kk := ?_) | refine z_O (kk := ?_) | refine z_2 (kk := ?_) | refine z_AI (kk := fun _ => ?_) | refine z_AN (kk := fun _ => ?_) | refine z_AB (kk := fun _ => ?_) | refine z_PU (kk := fun _ => ?_) | refine z_PW (kk := fun _ => ?_) | refine z_g (kk := ?_) | refine z_h (kk := ?_)))
              refine w_AN (i := J) hRx (fun wy p hRy hky hsy => ?_)
              have hAy := hAx.kp hky (fun e => by omega)
              have hSy : S0 w b2 b4 b5 b6 u v oo (upd fr' J hole) wy := ⟨Below.put (Below.put hbt' hkx (fun i e => by omega)) hky (fun i e => by omega), (hPt.kp hkx (fun e => by omega)).kp hky (fun e => by omega), (hOt.kp hkx (fun e => by omega)).kp hky (fun e => by omega), hRy, (hZt.kp hkx (fun e => by omega)).kp hky (fun e => by omega)⟩
              have hUy := (hUt.kp hkx (fun e => by omega)).kp hky (fun e => by omega)
              clear hAt hAx hRx hRt
              have hgo := hSc.go hJ1 hus (far2 := upd far' J (cst c (oo hole) J - u (oo hole) - v J)) (fr2 := upd fr' J hole) (fun j hj => ⟨upd_ne hj, upd_ne hj⟩) ⟨by rw [upd_eq, if_pos hd], by rw [upd_eq, if_pos hd]⟩
              by_cases hl : upd far' J (cst c (oo hole) J - u (oo hole) - v J) J < least
              · rw [if_pos hl, if_pos hl] at hgo
                (repeat (first | with_reducible refine W.seq ?_ | with_reducible refine Ops.nil ?_ | with_reducible refine W.region ?_ | refine z_p (kk := ?_) | refine z_a (kk := ?_) | refine z_y (kk := ?_) | refine z_n (kk := ?_) | refine z_u (kk := ?_) | with_reducible refine W.skip ?_ | with_reducible refine W.endb ?_ | with_reducible refine W.block ?_ | refine W.exit rfl ?_ | refine z_l (kk := ?_) | refine z_f (kk := ?_) | refine z_M (kk := ?_) | refine z_m (kk := ?_) | refine z_e (kk := ?_) | refine z_E (kk := ?_) | refine z_d (kk := ?_) | refine z_I (kk := fun _ => ?_) | refine z_J (kk := fun _ => ?_) | refine z_K (kk := fun _ => ?_) | refine z_L (kk := fun _ => ?_) | refine z_T (kk := ?_) | refine z_F (kk := ?_) | refine z_r (kk := fun _ _ _ _ => ?_) | refine z_D (kk := ?_) | refine z_B (kk := ?_) | refine z_S (kk := ?_) | refine z_Q (kk := ?_) | refine z_1 (kk := ?_) | refine z_O (kk := ?_) | refine z_2 (kk := ?_) | refine z_AI (kk := fun _ => ?_) | refine z_AN (kk := fun _ => ?_) | refine z_AB (kk := fun _ => ?_) | refine z_PU (kk := fun _ => ?_) | refine z_PW (kk := fun _ => ?_) | refine z_g (kk := ?_) | refine z_h (kk := ?_)))
                refine W.condT rfl (by first | rfl | assumption | (simp only [bnf] <;> omega) | (simp only [*, bnf]; done) | fail) ?_
                (repeat (first | with_reducible refine W.seq ?_ | with_reducible refine Ops.nil ?_ | with_reducible refine W.region ?_ | refine z_p (kk := ?_) | refine z_a (kk := ?_) | refine z_y (kk := ?_) | refine z_n (kk := ?_) | refine z_u (kk := ?_) | with_reducible refine W.skip ?_ | with_reducible refine W.endb ?_ | with_reducible refine W.block ?_ | refine W.exit rfl ?_ | refine z_l (kk := ?_) | refine z_f (kk := ?_) | refine z_M (kk := ?_) | refine z_m (kk := ?_) | refine z_e (kk := ?_) | refine z_E (kk := ?_) | refine z_d (kk := ?_) | refine z_I (kk := fun _ => ?_) | refine z_J (kk := fun _ => ?_) | refine z_K (kk := fun _ => ?_) | refine z_L (kk := fun _ => ?_) | refine z_T (kk := ?_) | refine z_F (kk := ?_) | refine z_r (kk := fun _ _ _ _ => ?_) | refine z_D (kk := ?_) | refine z_B (kk := ?_) | refine z_S (kk := ?_) | refine z_Q (kk := ?_) | refine z_1 (kk := ?_) | refine z_O (kk := ?_) | refine z_2 (kk := ?_) | refine z_AI (kk := fun _ => ?_) | refine z_AN (kk := fun _ => ?_) | refine z_AB (kk := fun _ => ?_) | refine z_PU (kk := fun _ => ?_) | refine z_PW (kk := fun _ => ?_) | refine z_g (kk := ?_) | refine z_h (kk := ?_)))
                exact W.endl ⟨_, _, ⟨⟨J + 1, _, _, _, J, rfl, by omega, by omega, rfl, hgo, hSy, hAy, hUy⟩, by omega⟩, (by repeat (first | exact trivial | refine And.intro rfl ?_))⟩
              · rw [if_neg hl, if_neg hl] at hgo
                (repeat (first | with_reducible refine W.seq ?_ | with_reducible refine Ops.nil ?_ | with_reducible refine W.region ?_ | refine z_p (kk := ?_) | refine z_a (kk := ?_) | refine z_y (kk := ?_) | refine z_n (kk := ?_) | refine z_u (kk := ?_) | with_reducible refine W.skip ?_ | with_reducible refine W.endb ?_ | with_reducible refine W.block ?_ | refine W.exit rfl ?_ | refine z_l (kk := ?_) | refine z_f (kk := ?_) | refine z_M (kk := ?_) | refine z_m (kk := ?_) | refine z_e (kk := ?_) | refine z_E (kk := ?_) | refine z_d (kk := ?_) | refine z_I (kk := fun _ => ?_) | refine z_J (kk := fun _ => ?_) | refine z_K (kk := fun _ => ?_) | refine z_L (kk := fun _ => ?_) | refine z_T (kk := ?_) | refine z_F (kk := ?_) | refine z_r (kk := fun _ _ _ _ => ?_) | refine z_D (kk := ?_) | refine z_B (kk := ?_) | refine z_S (kk := ?_) | refine z_Q (kk := ?_) | refine z_1 (kk := ?_) | refine z_O (kk := ?_) | refine z_2 (kk := ?_) | refine z_AI (kk := fun _ => ?_) | refine z_AN (kk := fun _ => ?_) | refine z_AB (kk := fun _ => ?_) | refine z_PU (kk := fun _ => ?_) | refine z_PW (kk := fun _ => ?_) | refine z_g (kk := ?_) | refine z_h (kk := ?_)))
                refine W.condF rfl (by first | rfl | assumption | (simp only [bnf] <;> omega) | (simp only [*, bnf]; done) | fail) ?_
                (repeat (first | with_reducible refine W.seq ?_ | with_reducible refine Ops.nil ?_ | with_reducible refine W.region ?_ | refine z_p (kk := ?_) | refine z_a (kk := ?_) | refine z_y (kk := ?_) | refine z_n (kk := ?_) | refine z_u (kk := ?_) | with_reducible refine W.skip ?_ | with_reducible refine W.endb ?_ | with_reducible refine W.block ?_ | refine W.exit rfl ?_ | refine z_l (kk := ?_) | refine z_f (kk := ?_) | refine z_M (kk := ?_) | refine z_m (kk := ?_) | refine z_e (kk := ?_) | refine z_E (kk := ?_) | refine z_d (kk := ?_) | refine z_I (kk := fun _ => ?_) | refine z_J (kk := fun _ => ?_) | refine z_K (kk := fun _ => ?_) | refine z_L (kk := fun _ => ?_) | refine z_T (kk := ?_) | refine z_F (kk := ?_) | refine z_r (kk := fun _ _ _ _ => ?_) | refine z_D (kk := ?_) | refine z_B (kk := ?_) | refine z_S (kk := ?_) | refine z_Q (kk := ?_) | refine z_1 (kk := ?_) | refine z_O (kk := ?_) | refine z_2 (kk := ?_) | refine z_AI (kk := fun _ => ?_) | refine z_AN (kk := fun _ => ?_) | refine z_AB (kk := fun _ => ?_) | refine z_PU (kk := fun _ => ?_) | refine z_PW (kk := fun _ => ?_) | refine z_g (kk := ?_) | refine z_h (kk := ?_)))
                exact W.endl ⟨_, _, ⟨⟨J + 1, _, _, _, next, rfl, by omega, by omega, rfl, hgo, hSy, hAy, hUy⟩, by omega⟩, (by repeat (first | exact trivial | refine And.intro rfl ?_))⟩
            · have hgo := hSc.go hJ1 hus (far2 := far') (fr2 := fr') (fun j hj => ⟨rfl, rfl⟩) ⟨by rw [if_neg hd], by rw [if_neg hd]⟩
              (repeat (first | with_reducible refine W.seq ?_ | with_reducible refine Ops.nil ?_ | with_reducible refine W.region ?_ | refine z_p (kk := ?_) | refine z_a (kk := ?_) | refine z_y (kk := ?_) | refine z_n (kk := ?_) | refine z_u (kk := ?_) | with_reducible refine W.skip ?_ | with_reducible refine W.endb ?_ | with_reducible refine W.block ?_ | refine W.exit rfl ?_ | refine z_l (kk := ?_) | refine z_f (kk := ?_) | refine z_M (kk := ?_) | refine z_m (kk := ?_) | refine z_e (kk := ?_) | refine z_E (kk := ?_) | refine z_d (kk := ?_) | refine z_I (kk := fun _ => ?_) | refine z_J (kk := fun _ => ?_) | refine z_K (kk := fun _ => ?_) | refine z_L (kk := fun _ => ?_) | refine z_T (kk := ?_) | refine z_F (kk := ?_) | refine z_r (kk := fun _ _ _ _ => ?_) | refine z_D (kk := ?_) | refine z_B (kk := ?_) | refine z_S (kk := ?_) | refine z_Q (kk := ?_) | refine z_1 (kk := ?_) | refine z_O (kk := ?_) | refine z_2 (kk := ?_) | refine z_AI (kk := fun _ => ?_) | refine z_AN (kk := fun _ => ?_) | refine z_AB (kk := fun _ => ?_) | refine z_PU (kk := fun _ => ?_) | refine z_PW (kk := fun _ => ?_) | refine z_g (kk := ?_) | refine z_h (kk := ?_)))
              refine W.condF rfl (by first | rfl | assumption | (simp only [bnf] <;> omega) | (simp only [*, bnf]; done) | fail) ?_
              (repeat (first | with_reducible refine W.seq ?_ | with_reducible refine Ops.nil ?_ | with_reducible refine W.region ?_ | refine z_p (kk := ?_) | refine z_a (kk := ?_) | refine z_y (kk := ?_) | refine z_n (kk := ?_) | refine z_u (kk := ?_) | with_reducible refine W.skip ?_ | with_reducible refine W.endb ?_ | with_reducible refine W.block ?_ | refine W.exit rfl ?_ | refine z_l (kk := ?_) | refine z_f (kk := ?_) | refine z_M (kk := ?_) | refine z_m (kk := ?_) | refine z_e (kk := ?_) | refine z_E (kk := ?_) | refine z_d (kk := ?_) | refine z_I (kk := fun _ => ?_) | refine z_J (kk := fun _ => ?_) | refine z_K (kk := fun _ => ?_) | refine z_L (kk := fun _ => ?_) | refine z_T (kk := ?_) | refine z_F (kk := ?_) | refine z_r (kk := fun _ _ _ _ => ?_) | refine z_D (kk := ?_) | refine z_B (kk := ?_) | refine z_S (kk := ?_) | refine z_Q (kk := ?_) | refine z_1 (kk := ?_) | refine z_O (kk := ?_) | refine z_2 (kk := ?_) | refine z_AI (kk := fun _ => ?_) | refine z_AN (kk := fun _ => ?_) | refine z_AB (kk := fun _ => ?_) | refine z_PU (kk := fun _ => ?_) | refine z_PW (kk := fun _ => ?_) | refine z_g (kk := ?_) | refine z_h (kk := ?_)))
              by_cases hl : far' J < least
              · rw [if_pos hl, if_pos hl] at hgo
                (repeat (first | with_reducible refine W.seq ?_ | with_reducible refine Ops.nil ?_ | with_reducible refine W.region ?_ | refine z_p (kk := ?_) | refine z_a (kk := ?_) | refine z_y (kk := ?_) | refine z_n (kk := ?_) | refine z_u (kk := ?_) | with_reducible refine W.skip ?_ | with_reducible refine W.endb ?_ | with_reducible refine W.block ?_ | refine W.exit rfl ?_ | refine z_l (kk := ?_) | refine z_f (kk := ?_) | refine z_M (kk := ?_) | refine z_m (kk := ?_) | refine z_e (kk := ?_) | refine z_E (kk := ?_) | refine z_d (kk := ?_) | refine z_I (kk := fun _ => ?_) | refine z_J (kk := fun _ => ?_) | refine z_K (kk := fun _ => ?_) | refine z_L (kk := fun _ => ?_) | refine z_T (kk := ?_) | refine z_F (kk := ?_) | refine z_r (kk := fun _ _ _ _ => ?_) | refine z_D (kk := ?_) | refine z_B (kk := ?_) | refine z_S (kk := ?_) | refine z_Q (kk := ?_) | refine z_1 (kk := ?_) | refine z_O (kk := ?_) | refine z_2 (kk := ?_) | refine z_AI (kk := fun _ => ?_) | refine z_AN (kk := fun _ => ?_) | refine z_AB (kk := fun _ => ?_) | refine z_PU (kk := fun _ => ?_) | refine z_PW (kk := fun _ => ?_) | refine z_g (kk := ?_) | refine z_h (kk := ?_)))
                refine W.condT rfl (by first | rfl | assumption | (simp only [bnf] <;> omega) | (simp only [*, bnf]; done) | fail) ?_
                (repeat (first | with_reducible refine W.seq ?_ | with_reducible refine Ops.nil ?_ | with_reducible refine W.region ?_ | refine z_p (kk := ?_) | refine z_a (kk := ?_) | refine z_y (kk := ?_) | refine z_n (kk := ?_) | refine z_u (kk := ?_) | with_reducible refine W.skip ?_ | with_reducible refine W.endb ?_ | with_reducible refine W.block ?_ | refine W.exit rfl ?_ | refine z_l (kk := ?_) | refine z_f (kk := ?_) | refine z_M (kk := ?_) | refine z_m (kk := ?_) | refine z_e (kk := ?_) | refine z_E (kk := ?_) | refine z_d (kk := ?_) | refine z_I (kk := fun _ => ?_) | refine z_J (kk := fun _ => ?_) | refine z_K (kk := fun _ => ?_) | refine z_L (kk := fun _ => ?_) | refine z_T (kk := ?_) | refine z_F (kk := ?_) | refine z_r (kk := fun _ _ _ _ => ?_) | refine z_D (kk := ?_) | refine z_B (kk := ?_) | refine z_S (kk := ?_) | refine z_Q (kk := ?_) | refine z_1 (kk := ?_) | refine z_O (kk := ?_) | refine z_2 (kk := ?_) | refine z_AI (kk := fun _ => ?_) | refine z_AN (kk := fun _ => ?_) | refine z_AB (kk := fun _ => ?_) | refine z_PU (kk := fun _ => ?_) | refine z_PW (kk := fun _ => ?_) | refine z_g (kk := ?_) | refine z_h (kk := ?_)))
                exact W.endl ⟨_, _, ⟨⟨J + 1, _, _, _, J, rfl, by omega, by omega, rfl, hgo, hSt, hAt, hUt⟩, by omega⟩, (by repeat (first | exact trivial | refine And.intro rfl ?_))⟩
              · rw [if_neg hl, if_neg hl] at hgo
                (repeat (first | with_reducible refine W.seq ?_ | with_reducible refine Ops.nil ?_ | with_reducible refine W.region ?_ | refine z_p (kk := ?_) | refine z_a (kk := ?_) | refine z_y (kk := ?_) | refine z_n (kk := ?_) | refine z_u (kk := ?_) | with_reducible refine W.skip ?_ | with_reducible refine W.endb ?_ | with_reducible refine W.block ?_ | refine W.exit rfl ?_ | refine z_l (kk := ?_) | refine z_f (kk := ?_) | refine z_M (kk := ?_) | refine z_m (kk := ?_) | refine z_e (kk := ?_) | refine z_E (kk := ?_) | refine z_d (kk := ?_) | refine z_I (kk := fun _ => ?_) | refine z_J (kk := fun _ => ?_) | refine z_K (kk := fun _ => ?_) | refine z_L (kk := fun _ => ?_) | refine z_T (kk := ?_) | refine z_F (kk := ?_) | refine z_r (kk := fun _ _ _ _ => ?_) | refine z_D (kk := ?_) | refine z_B (kk := ?_) | refine z_S (kk := ?_) | refine z_Q (kk := ?_) | refine z_1 (kk := ?_) | refine z_O (kk := ?_) | refine z_2 (kk := ?_) | refine z_AI (kk := fun _ => ?_) | refine z_AN (kk := fun _ => ?_) | refine z_AB (kk := fun _ => ?_) | refine z_PU (kk := fun _ => ?_) | refine z_PW (kk := fun _ => ?_) | refine z_g (kk := ?_) | refine z_h (kk := ?_)))
                refine W.condF rfl (by first | rfl | assumption | (simp only [bnf] <;> omega) | (simp only [*, bnf]; done) | fail) ?_
                (repeat (first | with_reducible refine W.seq ?_ | with_reducible refine Ops.nil ?_ | with_reducible refine W.region ?_ | refine z_p (kk := ?_) | refine z_a (kk := ?_) | refine z_y (kk := ?_) | refine z_n (kk := ?_) | refine z_u (kk := ?_) | with_reducible refine W.skip ?_ | with_reducible refine W.endb ?_ | with_reducible refine W.block ?_ | refine W.exit rfl ?_ | refine z_l (kk := ?_) | refine z_f (kk := ?_) | refine z_M (kk := ?_) | refine z_m (kk := ?_) | refine z_e (kk := ?_) | refine z_E (kk := ?_) | refine z_d (kk := ?_) | refine z_I (kk := fun _ => ?_) | refine z_J (kk := fun _ => ?_) | refine z_K (kk := fun _ => ?_) | refine z_L (kk := fun _ => ?_) | refine z_T (kk := ?_) | refine z_F (kk := ?_) | refine z_r (kk := fun _ _ _ _ => ?_) | refine z_D (kk := ?_) | refine z_B (kk := ?_) | refine z_S (kk := ?_) | refine z_Q (kk := ?_) | refine z_1 (kk := ?_) | refine z_O (kk := ?_) | refine z_2 (kk := ?_) | refine z_AI (kk := fun _ => ?_) | refine z_AN (kk := fun _ => ?_) | refine z_AB (kk := fun _ => ?_) | refine z_PU (kk := fun _ => ?_) | refine z_PW (kk := fun _ => ?_) | refine z_g (kk := ?_) | refine z_h (kk := ?_)))
                exact W.endl ⟨_, _, ⟨⟨J + 1, _, _, _, next, rfl, by omega, by omega, rfl, hgo, hSt, hAt, hUt⟩, by omega⟩, (by repeat (first | exact trivial | refine And.intro rfl ?_))⟩
        · have hJl : J = c.length + 1 := by omega
          subst hJl
          clear hJ1 hJn
          have husn : ∀ k, upd us hole true k = true → k ≤ c.length ∧ oo k ≠ 0 := fun k hk => by
            unfold upd at hk
            split at hk
            · rename_i e; subst e; exact ⟨hhn, hz⟩
            · exact hQ.usn k hk
          have hus0 : upd us hole true 0 = true := by
            rcases hQ.st with ⟨e, _⟩ | hB
            · rw [e]; exact upd_eq
            · unfold upd; split; rfl; exact hB.us0
          have hfb : ∀ j, 1 ≤ j → j ≤ c.length → upd us hole true j = false → -100000 ≤ far' j ∧ far' j ≤ 1099511627776 := fun j h1 h2 h3 => by
            have g1 := (hSc.unu j h1 (by omega) h3).1
            have g2 := bf j h1 h2 (hUf j h3)
            have g3 := hcb (oo hole) j hob.1 hob.2 h1 h2
            have g4 := bv j h2
            have g5 := bu (oo hole) hob.1
            rw [g1]
            split <;> omega
          have hlb : -100000 ≤ least ∧ least ≤ 1099511627776 := by
            rcases hSc.lst with ⟨_, e, _⟩ | ⟨h1, h2, h3, h4, _⟩
            · omega
            · rw [h4]; exact hfb next h1 (by omega) h3
          have hdist : ∀ j k, j ≤ c.length → k ≤ c.length → upd us hole true j = true → upd us hole true k = true → k ≠ j → oo k ≠ oo j := fun j k hj hk h1 h2 hne e => by
            by_cases e0 : j = 0
            · subst e0
              exact hne (hQ.used_inj hj (by omega) hk e.symm (husn k h2).2).symm
            · exact hne (hQ.used_inj hk (by omega) hj e (husn j h1).2)
          (repeat (first | with_reducible refine W.seq ?_ | with_reducible refine Ops.nil ?_ | with_reducible refine W.region ?_ | refine z_p (kk := ?_) | refine z_a (kk := ?_) | refine z_y (kk := ?_) | refine z_n (kk := ?_) | refine z_u (kk := ?_) | with_reducible refine W.skip ?_ | with_reducible refine W.endb ?_ | with_reducible refine W.block ?_ | refine W.exit rfl ?_ | refine z_l (kk := ?_) | refine z_f (kk := ?_) | refine z_M (kk := ?_) | refine z_m (kk := ?_) | refine z_e (kk := ?_) | refine z_E (kk := ?_) | refine z_d (kk := ?_) | refine z_I (kk := fun _ => ?_) | refine z_J (kk := fun _ => ?_) | refine z_K (kk := fun _ => ?_) | refine z_L (kk := fun _ => ?_) | refine z_T (kk := ?_) | refine z_F (kk := ?_) | refine z_r (kk := fun _ _ _ _ => ?_) | refine z_D (kk := ?_) | refine z_B (kk := ?_) | refine z_S (kk := ?_) | refine z_Q (kk := ?_) | refine z_1 (kk := ?_) | refine z_O (kk := ?_) | refine z_2 (kk := ?_) | refine z_AI (kk := fun _ => ?_) | refine z_AN (kk := fun _ => ?_) | refine z_AB (kk := fun _ => ?_) | refine z_PU (kk := fun _ => ?_) | refine z_PW (kk := fun _ => ?_) | refine z_g (kk := ?_) | refine z_h (kk := ?_)))
          refine W.loop (fun mm ρ wv => ∃ (J : Nat) (u' v' far2 : Nat → Int), mm = c.length + 1 - J ∧ J ≤ c.length + 1 ∧ ρ = [(0, .slice Ac c.length cc), (2, .pointer (some ⟨b2, 0, none⟩)), (3, .int .i64 c.length), (4, .pointer (some ⟨b4, 0, none⟩)), (5, .pointer (some ⟨b5, 0, none⟩)), (6, .pointer (some ⟨b6, 0, none⟩)), (7, .int .i64 ((m + 1 : Nat) : Int)), (9, .pointer (some ⟨b9, 0, none⟩)), (11, .pointer (some ⟨b11, 0, none⟩)), (13, .int .i64 least), (14, .int .i64 (next : Int)), (91, .int .i64 ((c.length : Int) + 1)), (92, .int .i64 (J : Int))] ∧ Updd (upd us hole true) oo least u v far' u' v' far2 J ∧ S0 w b2 b4 b5 b6 u' v' oo fr' wv ∧ AI wv b9 84 far2 ∧ AB wv b11 110 (upd us hole true))
            ⟨_, _, ⟨0, u, v, far', rfl, Nat.zero_le _, rfl, Updd.start, hSs, hAs, hUs⟩, (by repeat (first | exact trivial | refine And.intro rfl ?_))⟩ ?_
          clear hSs hAs hUs hOs hPs hRs hbs
          rintro mm ρ wv ⟨J, u', v', far2, rfl, hJn, rfl, hUp, hSv, hAv, hUv⟩
          have hOv := hSv.O
          have hPv := hSv.P
          have hRv := hSv.R
          have hZv := hSv.Z
          have hbv := hSv.bel
          have h56v := hbv.size
          (repeat (first | with_reducible refine W.seq ?_ | with_reducible refine Ops.nil ?_ | with_reducible refine W.region ?_ | refine z_p (kk := ?_) | refine z_a (kk := ?_) | refine z_y (kk := ?_) | refine z_n (kk := ?_) | refine z_u (kk := ?_) | with_reducible refine W.skip ?_ | with_reducible refine W.endb ?_ | with_reducible refine W.block ?_ | refine W.exit rfl ?_ | refine z_l (kk := ?_) | refine z_f (kk := ?_) | refine z_M (kk := ?_) | refine z_m (kk := ?_) | refine z_e (kk := ?_) | refine z_E (kk := ?_) | refine z_d (kk := ?_) | refine z_I (kk := fun _ => ?_) | refine z_J (kk := fun _ => ?_) | refine z_K (kk := fun _ => ?_) | refine z_L (kk := fun _ => ?_) | refine z_T (kk := ?_) | refine z_F (kk := ?_) | refine z_r (kk := fun _ _ _ _ => ?_) | refine z_D (kk := ?_) | refine z_B (kk := ?_) | refine z_S (kk := ?_) | refine z_Q (kk := ?_) | refine z_1 (kk := ?_) | refine z_O (kk := ?_) | refine z_2 (kk := ?_) | refine z_AI (kk := fun _ => ?_) | refine z_AN (kk := fun _ => ?_) | refine z_AB (kk := fun _ => ?_) | refine z_PU (kk := fun _ => ?_) | refine z_PW (kk := fun _ => ?_) | refine z_g (kk := ?_) | refine z_h (kk := ?_)))
          (first | refine W.condD rfl (fun hc => ?_) (fun hc => ?_) | refine W.condE rfl (fun hc => ?_) (fun hc => ?_) | refine W.condN rfl (fun hc => ?_) (fun hc => ?_) | refine W.cond rfl (fun hc => ?_) (fun hc => ?_))
          · have hJl : J ≤ c.length := by omega
            obtain ⟨hcv, hcf⟩ := hUp.cur
            have hvJ := bv J hJl
            cases hus : upd us hole true J with
            | true =>
              have hinj : ∀ k, k < J → upd us hole true k = true → oo k ≠ oo J := fun k hk h2 => hdist J k hJl (by omega) hus h2 (by omega)
              have hcu := hUp.curU hinj
              have hoJ := (husn J hus).2
              have huJ := bu (oo J) (by omega)
              have hoJ7 : oo J ≤ 7 := by
                have h0 := hQ.o0
                have hlt := hQ.lt
                by_cases e : J = 0
                · subst e; omega
                · have := hQ.im J (by omega) hJl; omega
              rw [← hcu] at huJ
              rw [← hcv] at hvJ
              (repeat (first | with_reducible refine W.seq ?_ | with_reducible refine Ops.nil ?_ | with_reducible refine W.region ?_ | refine z_p (kk := ?_) | refine z_a (kk := ?_) | refine z_y (kk := ?_) | refine z_n (kk := ?_) | refine z_u (kk := ?_) | with_reducible refine W.skip ?_ | with_reducible refine W.endb ?_ | with_reducible refine W.block ?_ | refine W.exit rfl ?_ | refine z_l (kk := ?_) | refine z_f (kk := ?_) | refine z_M (kk := ?_) | refine z_m (kk := ?_) | refine z_e (kk := ?_) | refine z_E (kk := ?_) | refine z_d (kk := ?_) | refine z_I (kk := fun _ => ?_) | refine z_J (kk := fun _ => ?_) | refine z_K (kk := fun _ => ?_) | refine z_L (kk := fun _ => ?_) | refine z_T (kk := ?_) | refine z_F (kk := ?_) | refine z_r (kk := fun _ _ _ _ => ?_) | refine z_D (kk := ?_) | refine z_B (kk := ?_) | refine z_S (kk := ?_) | refine z_Q (kk := ?_) | refine z_1 (kk := ?_) | refine z_O (kk := ?_) | refine z_2 (kk := ?_) | refine z_AI (kk := fun _ => ?_) | refine z_AN (kk := fun _ => ?_) | refine z_AB (kk := fun _ => ?_) | refine z_PU (kk := fun _ => ?_) | refine z_PW (kk := fun _ => ?_) | refine z_g (kk := ?_) | refine z_h (kk := ?_)))
              refine W.condT rfl (by first | rfl | assumption | (simp only [bnf] <;> omega) | (simp only [*, bnf]; done) | fail) ?_
              (repeat (first | with_reducible refine W.seq ?_ | with_reducible refine Ops.nil ?_ | with_reducible refine W.region ?_ | refine z_p (kk := ?_) | refine z_a (kk := ?_) | refine z_y (kk := ?_) | refine z_n (kk := ?_) | refine z_u (kk := ?_) | with_reducible refine W.skip ?_ | with_reducible refine W.endb ?_ | with_reducible refine W.block ?_ | refine W.exit rfl ?_ | refine z_l (kk := ?_) | refine z_f (kk := ?_) | refine z_M (kk := ?_) | refine z_m (kk := ?_) | refine z_e (kk := ?_) | refine z_E (kk := ?_) | refine z_d (kk := ?_) | refine z_I (kk := fun _ => ?_) | refine z_J (kk := fun _ => ?_) | refine z_K (kk := fun _ => ?_) | refine z_L (kk := fun _ => ?_) | refine z_T (kk := ?_) | refine z_F (kk := ?_) | refine z_r (kk := fun _ _ _ _ => ?_) | refine z_D (kk := ?_) | refine z_B (kk := ?_) | refine z_S (kk := ?_) | refine z_Q (kk := ?_) | refine z_1 (kk := ?_) | refine z_O (kk := ?_) | refine z_2 (kk := ?_) | refine z_AI (kk := fun _ => ?_) | refine z_AN (kk := fun _ => ?_) | refine z_AB (kk := fun _ => ?_) | refine z_PU (kk := fun _ => ?_) | refine z_PW (kk := fun _ => ?_) | refine z_g (kk := ?_) | refine z_h (kk := ?_)))
              refine w_PU (i := oo J) hPv (fun wx p hPx hkx hsx => ?_)
              have hOx := hOv.kp hkx (fun e => by omega)
              clear hPv
              (repeat (first | with_reducible refine W.seq ?_ | with_reducible refine Ops.nil ?_ | with_reducible refine W.region ?_ | refine z_p (kk := ?_) | refine z_a (kk := ?_) | refine z_y (kk := ?_) | refine z_n (kk := ?_) | refine z_u (kk := ?_) | with_reducible refine W.skip ?_ | with_reducible refine W.endb ?_ | with_reducible refine W.block ?_ | refine W.exit rfl ?_ | refine z_l (kk := ?_) | refine z_f (kk := ?_) | refine z_M (kk := ?_) | refine z_m (kk := ?_) | refine z_e (kk := ?_) | refine z_E (kk := ?_) | refine z_d (kk := ?_) | refine z_I (kk := fun _ => ?_) | refine z_J (kk := fun _ => ?_) | refine z_K (kk := fun _ => ?_) | refine z_L (kk := fun _ => ?_) | refine z_T (kk := ?_) | refine z_F (kk := ?_) | refine z_r (kk := fun _ _ _ _ => ?_) | refine z_D (kk := ?_) | refine z_B (kk := ?_) | refine z_S (kk := ?_) | refine z_Q (kk := ?_) | refine z_1 (kk := ?_) | refine z_O (kk := ?_) | refine z_2 (kk := ?_) | refine z_AI (kk := fun _ => ?_) | refine z_AN (kk := fun _ => ?_) | refine z_AB (kk := fun _ => ?_) | refine z_PU (kk := fun _ => ?_) | refine z_PW (kk := fun _ => ?_) | refine z_g (kk := ?_) | refine z_h (kk := ?_)))
              refine w_PW (i := J) hPx (fun wy p hPy hky hsy => ?_)
              have hstep := hUp.used hus hinj
              rw [← hcu, ← hcv] at hstep
              have hSy : S0 w b2 b4 b5 b6 (upd u' (oo J) (u' (oo J) + least)) (upd v' J (v' J - least)) oo fr' wy := ⟨Below.put (Below.put hbv hkx (fun i e => by omega)) hky (fun i e => by omega), hPy, hOx.kp hky (fun e => by omega), (hRv.kp hkx (fun e => by omega)).kp hky (fun e => by omega), (hZv.kp hkx (fun e => by omega)).kp hky (fun e => by omega)⟩
              (repeat (first | with_reducible refine W.seq ?_ | with_reducible refine Ops.nil ?_ | with_reducible refine W.region ?_ | refine z_p (kk := ?_) | refine z_a (kk := ?_) | refine z_y (kk := ?_) | refine z_n (kk := ?_) | refine z_u (kk := ?_) | with_reducible refine W.skip ?_ | with_reducible refine W.endb ?_ | with_reducible refine W.block ?_ | refine W.exit rfl ?_ | refine z_l (kk := ?_) | refine z_f (kk := ?_) | refine z_M (kk := ?_) | refine z_m (kk := ?_) | refine z_e (kk := ?_) | refine z_E (kk := ?_) | refine z_d (kk := ?_) | refine z_I (kk := fun _ => ?_) | refine z_J (kk := fun _ => ?_) | refine z_K (kk := fun _ => ?_) | refine z_L (kk := fun _ => ?_) | refine z_T (kk := ?_) | refine z_F (kk := ?_) | refine z_r (kk := fun _ _ _ _ => ?_) | refine z_D (kk := ?_) | refine z_B (kk := ?_) | refine z_S (kk := ?_) | refine z_Q (kk := ?_) | refine z_1 (kk := ?_) | refine z_O (kk := ?_) | refine z_2 (kk := ?_) | refine z_AI (kk := fun _ => ?_) | refine z_AN (kk := fun _ => ?_) | refine z_AB (kk := fun _ => ?_) | refine z_PU (kk := fun _ => ?_) | refine z_PW (kk := fun _ => ?_) | refine z_g (kk := ?_) | refine z_h (kk := ?_)))
              exact W.endl ⟨_, _, ⟨⟨J + 1, _, _, far2, rfl, by omega, rfl, hstep, hSy, (hAv.kp hkx (fun e => by omega)).kp hky (fun e => by omega), (hUv.kp hkx (fun e => by omega)).kp hky (fun e => by omega)⟩, by omega⟩, (by repeat (first | exact trivial | refine And.intro rfl ?_))⟩
            | false =>
              have hJ1 : 1 ≤ J := by
                rcases Nat.eq_zero_or_pos J with e | e
                · subst e; rw [hus0] at hus; cases hus
                · exact e
              have hfJ := hfb J hJ1 hJl hus
              rw [← hcf] at hfJ
              (repeat (first | with_reducible refine W.seq ?_ | with_reducible refine Ops.nil ?_ | with_reducible refine W.region ?_ | refine z_p (kk := ?_) | refine z_a (kk := ?_) | refine z_y (kk := ?_) | refine z_n (kk := ?_) | refine z_u (kk := ?_) | with_reducible refine W.skip ?_ | with_reducible refine W.endb ?_ | with_reducible refine W.block ?_ | refine W.exit rfl ?_ | refine z_l (kk := ?_) | refine z_f (kk := ?_) | refine z_M (kk := ?_) | refine z_m (kk := ?_) | refine z_e (kk := ?_) | refine z_E (kk := ?_) | refine z_d (kk := ?_) | refine z_I (kk := fun _ => ?_) | refine z_J (kk := fun _ => ?_) | refine z_K (kk := fun _ => ?_) | refine z_L (kk := fun _ => ?_) | refine z_T (kk := ?_) | refine z_F (kk := ?_) | refine z_r (kk := fun _ _ _ _ => ?_) | refine z_D (kk := ?_) | refine z_B (kk := ?_) | refine z_S (kk := ?_) | refine z_Q (kk := ?_) | refine z_1 (kk := ?_) | refine z_O (kk := ?_) | refine z_2 (kk := ?_) | refine z_AI (kk := fun _ => ?_) | refine z_AN (kk := fun _ => ?_) | refine z_AB (kk := fun _ => ?_) | refine z_PU (kk := fun _ => ?_) | refine z_PW (kk := fun _ => ?_) | refine z_g (kk := ?_) | refine z_h (kk := ?_)))
              refine W.condF rfl (by first | rfl | assumption | (simp only [bnf] <;> omega) | (simp only [*, bnf]; done) | fail) ?_
              (repeat (first | with_reducible refine W.seq ?_ | with_reducible refine Ops.nil ?_ | with_reducible refine W.region ?_ | refine z_p (kk := ?_) | refine z_a (kk := ?_) | refine z_y (kk := ?_) | refine z_n (kk := ?_) | refine z_u (kk := ?_) | with_reducible refine W.skip ?_ | with_reducible refine W.endb ?_ | with_reducible refine W.block ?_ | refine W.exit rfl ?_ | refine z_l (kk := ?_) | refine z_f (kk := ?_) | refine z_M (kk := ?_) | refine z_m (kk := ?_) | refine z_e (kk := ?_) | refine z_E (kk := ?_) | refine z_d (kk := ?_) | refine z_I (kk := fun _ => ?_) | refine z_J (kk := fun _ => ?_) | refine z_K (kk := fun _ => ?_) | refine z_L (kk := fun _ => ?_) | refine z_T (kk := ?_) | refine z_F (kk := ?_) | refine z_r (kk := fun _ _ _ _ => ?_) | refine z_D (kk := ?_) | refine z_B (kk := ?_) | refine z_S (kk := ?_) | refine z_Q (kk := ?_) | refine z_1 (kk := ?_) | refine z_O (kk := ?_) | refine z_2 (kk := ?_) | refine z_AI (kk := fun _ => ?_) | refine z_AN (kk := fun _ => ?_) | refine z_AB (kk := fun _ => ?_) | refine z_PU (kk := fun _ => ?_) | refine z_PW (kk := fun _ => ?_) | refine z_g (kk := ?_) | refine z_h (kk := ?_)))
              refine w_AI (i := J) hAv (fun wx p hAx hkx hsx => ?_)
              have hstep := hUp.free hus
              rw [← hcf] at hstep
              (repeat (first | with_reducible refine W.seq ?_ | with_reducible refine Ops.nil ?_ | with_reducible refine W.region ?_ | refine z_p (kk := ?_) | refine z_a (kk := ?_) | refine z_y (kk := ?_) | refine z_n (kk := ?_) | refine z_u (kk := ?_) | with_reducible refine W.skip ?_ | with_reducible refine W.endb ?_ | with_reducible refine W.block ?_ | refine W.exit rfl ?_ | refine z_l (kk := ?_) | refine z_f (kk := ?_) | refine z_M (kk := ?_) | refine z_m (kk := ?_) | refine z_e (kk := ?_) | refine z_E (kk := ?_) | refine z_d (kk := ?_) | refine z_I (kk := fun _ => ?_) | refine z_J (kk := fun _ => ?_) | refine z_K (kk := fun _ => ?_) | refine z_L (kk := fun _ => ?_) | refine z_T (kk := ?_) | refine z_F (kk := ?_) | refine z_r (kk := fun _ _ _ _ => ?_) | refine z_D (kk := ?_) | refine z_B (kk := ?_) | refine z_S (kk := ?_) | refine z_Q (kk := ?_) | refine z_1 (kk := ?_) | refine z_O (kk := ?_) | refine z_2 (kk := ?_) | refine z_AI (kk := fun _ => ?_) | refine z_AN (kk := fun _ => ?_) | refine z_AB (kk := fun _ => ?_) | refine z_PU (kk := fun _ => ?_) | refine z_PW (kk := fun _ => ?_) | refine z_g (kk := ?_) | refine z_h (kk := ?_)))
              exact W.endl ⟨_, _, ⟨⟨J + 1, u', v', _, rfl, by omega, rfl, hstep, hSv.kp hkx (fun i e => by omega), hAx, hUv.kp hkx (fun e => by omega)⟩, by omega⟩, (by repeat (first | exact trivial | refine And.intro rfl ?_))⟩
          · have hJl : J = c.length + 1 := by omega
            subst hJl
            obtain ⟨hQ', hn1'⟩ := hQ.step hcb hn7 hz hSc hUp
            (repeat (first | with_reducible refine W.seq ?_ | with_reducible refine Ops.nil ?_ | with_reducible refine W.region ?_ | refine z_p (kk := ?_) | refine z_a (kk := ?_) | refine z_y (kk := ?_) | refine z_n (kk := ?_) | refine z_u (kk := ?_) | with_reducible refine W.skip ?_ | with_reducible refine W.endb ?_ | with_reducible refine W.block ?_ | refine W.exit rfl ?_ | refine z_l (kk := ?_) | refine z_f (kk := ?_) | refine z_M (kk := ?_) | refine z_m (kk := ?_) | refine z_e (kk := ?_) | refine z_E (kk := ?_) | refine z_d (kk := ?_) | refine z_I (kk := fun _ => ?_) | refine z_J (kk := fun _ => ?_) | refine z_K (kk := fun _ => ?_) | refine z_L (kk := fun _ => ?_) | refine z_T (kk := ?_) | refine z_F (kk := ?_) | refine z_r (kk := fun _ _ _ _ => ?_) | refine z_D (kk := ?_) | refine z_B (kk := ?_) | refine z_S (kk := ?_) | refine z_Q (kk := ?_) | refine z_1 (kk := ?_) | refine z_O (kk := ?_) | refine z_2 (kk := ?_) | refine z_AI (kk := fun _ => ?_) | refine z_AN (kk := fun _ => ?_) | refine z_AB (kk := fun _ => ?_) | refine z_PU (kk := fun _ => ?_) | refine z_PW (kk := fun _ => ?_) | refine z_g (kk := ?_) | refine z_h (kk := ?_)))
            exact W.endl ⟨_, _, ⟨⟨next, u', v', far2, fr', upd us hole true, rfl, rfl, hQ', hSv, hAv, hUv⟩, by omega⟩, (by repeat (first | exact trivial | refine And.intro rfl ?_))⟩
      · have hz : oo hole = 0 := by simpa using hc
        obtain ⟨rk, hrk, hAU⟩ := hQ.back hz
        have husn := hQ.usn
        clear hOq
        (repeat (first | with_reducible refine W.seq ?_ | with_reducible refine Ops.nil ?_ | with_reducible refine W.region ?_ | refine z_p (kk := ?_) | refine z_a (kk := ?_) | refine z_y (kk := ?_) | refine z_n (kk := ?_) | refine z_u (kk := ?_) | with_reducible refine W.skip ?_ | with_reducible refine W.endb ?_ | with_reducible refine W.block ?_ | refine W.exit rfl ?_ | refine z_l (kk := ?_) | refine z_f (kk := ?_) | refine z_M (kk := ?_) | refine z_m (kk := ?_) | refine z_e (kk := ?_) | refine z_E (kk := ?_) | refine z_d (kk := ?_) | refine z_I (kk := fun _ => ?_) | refine z_J (kk := fun _ => ?_) | refine z_K (kk := fun _ => ?_) | refine z_L (kk := fun _ => ?_) | refine z_T (kk := ?_) | refine z_F (kk := ?_) | refine z_r (kk := fun _ _ _ _ => ?_) | refine z_D (kk := ?_) | refine z_B (kk := ?_) | refine z_S (kk := ?_) | refine z_Q (kk := ?_) | refine z_1 (kk := ?_) | refine z_O (kk := ?_) | refine z_2 (kk := ?_) | refine z_AI (kk := fun _ => ?_) | refine z_AN (kk := fun _ => ?_) | refine z_AB (kk := fun _ => ?_) | refine z_PU (kk := fun _ => ?_) | refine z_PW (kk := fun _ => ?_) | refine z_g (kk := ?_) | refine z_h (kk := ?_)))
        refine W.loop (fun mm ρ wb => ∃ (h : Nat) (oc : Nat → Nat), mm = muA us rk (cntB us (c.length + 1)) h ∧ ρ = [(0, .slice Ac c.length cc), (2, .pointer (some ⟨b2, 0, none⟩)), (3, .int .i64 c.length), (4, .pointer (some ⟨b4, 0, none⟩)), (5, .pointer (some ⟨b5, 0, none⟩)), (6, .pointer (some ⟨b6, 0, none⟩)), (7, .int .i64 ((m + 1 : Nat) : Int)), (8, .int .i64 (h : Int))] ∧ AU (cst c) c.length m u v oo fr us rk (cntB us (c.length + 1)) oc h ∧ S0 w b2 b4 b5 b6 u v oc fr wb)
          ⟨_, _, ⟨hole, oo, rfl, rfl, hAU, hSq⟩, (by repeat (first | exact trivial | refine And.intro rfl ?_))⟩ ?_
        clear hAU hSq hAq hUq
        rintro mm ρ wb ⟨h, oc, rfl, rfl, hAU, hSb⟩
        have hOb := hSb.O
        have hRb := hSb.R
        have hh := hAU.hn
        (repeat (first | with_reducible refine W.seq ?_ | with_reducible refine Ops.nil ?_ | with_reducible refine W.region ?_ | refine z_p (kk := ?_) | refine z_a (kk := ?_) | refine z_y (kk := ?_) | refine z_n (kk := ?_) | refine z_u (kk := ?_) | with_reducible refine W.skip ?_ | with_reducible refine W.endb ?_ | with_reducible refine W.block ?_ | refine W.exit rfl ?_ | refine z_l (kk := ?_) | refine z_f (kk := ?_) | refine z_M (kk := ?_) | refine z_m (kk := ?_) | refine z_e (kk := ?_) | refine z_E (kk := ?_) | refine z_d (kk := ?_) | refine z_I (kk := fun _ => ?_) | refine z_J (kk := fun _ => ?_) | refine z_K (kk := fun _ => ?_) | refine z_L (kk := fun _ => ?_) | refine z_T (kk := ?_) | refine z_F (kk := ?_) | refine z_r (kk := fun _ _ _ _ => ?_) | refine z_D (kk := ?_) | refine z_B (kk := ?_) | refine z_S (kk := ?_) | refine z_Q (kk := ?_) | refine z_1 (kk := ?_) | refine z_O (kk := ?_) | refine z_2 (kk := ?_) | refine z_AI (kk := fun _ => ?_) | refine z_AN (kk := fun _ => ?_) | refine z_AB (kk := fun _ => ?_) | refine z_PU (kk := fun _ => ?_) | refine z_PW (kk := fun _ => ?_) | refine z_g (kk := ?_) | refine z_h (kk := ?_)))
        refine W.cond rfl (fun hc => ?_) (fun hc => ?_)
        · have hh1 : 1 ≤ h := by
            have : ¬ (h : Int) = 0 := by simpa using hc
            omega
          have hfl := (husn _ (hAU.chain hh1).1).1
          obtain ⟨hAU', hmu⟩ := hAU.step hrk husn hh1
          have h56b := hSb.bel.size
          (repeat (first | with_reducible refine W.seq ?_ | with_reducible refine Ops.nil ?_ | with_reducible refine W.region ?_ | refine z_p (kk := ?_) | refine z_a (kk := ?_) | refine z_y (kk := ?_) | refine z_n (kk := ?_) | refine z_u (kk := ?_) | with_reducible refine W.skip ?_ | with_reducible refine W.endb ?_ | with_reducible refine W.block ?_ | refine W.exit rfl ?_ | refine z_l (kk := ?_) | refine z_f (kk := ?_) | refine z_M (kk := ?_) | refine z_m (kk := ?_) | refine z_e (kk := ?_) | refine z_E (kk := ?_) | refine z_d (kk := ?_) | refine z_I (kk := fun _ => ?_) | refine z_J (kk := fun _ => ?_) | refine z_K (kk := fun _ => ?_) | refine z_L (kk := fun _ => ?_) | refine z_T (kk := ?_) | refine z_F (kk := ?_) | refine z_r (kk := fun _ _ _ _ => ?_) | refine z_D (kk := ?_) | refine z_B (kk := ?_) | refine z_S (kk := ?_) | refine z_Q (kk := ?_) | refine z_1 (kk := ?_) | refine z_O (kk := ?_) | refine z_2 (kk := ?_) | refine z_AI (kk := fun _ => ?_) | refine z_AN (kk := fun _ => ?_) | refine z_AB (kk := fun _ => ?_) | refine z_PU (kk := fun _ => ?_) | refine z_PW (kk := fun _ => ?_) | refine z_g (kk := ?_) | refine z_h (kk := ?_)))
          refine w_AN (i := h) hOb (fun wx p hOx hkx hsx => ?_)
          have hRx := hRb.kp hkx (fun e => by omega)
          have hSx : S0 w b2 b4 b5 b6 u v (upd oc h (oc (fr h))) fr wx := ⟨Below.put hSb.bel hkx (fun i e => by omega), hSb.P.kp hkx (fun e => by omega), hOx, hRx, hSb.Z.kp hkx (fun e => by omega)⟩
          clear hRb hOb
          (repeat (first | with_reducible refine W.seq ?_ | with_reducible refine Ops.nil ?_ | with_reducible refine W.region ?_ | refine z_p (kk := ?_) | refine z_a (kk := ?_) | refine z_y (kk := ?_) | refine z_n (kk := ?_) | refine z_u (kk := ?_) | with_reducible refine W.skip ?_ | with_reducible refine W.endb ?_ | with_reducible refine W.block ?_ | refine W.exit rfl ?_ | refine z_l (kk := ?_) | refine z_f (kk := ?_) | refine z_M (kk := ?_) | refine z_m (kk := ?_) | refine z_e (kk := ?_) | refine z_E (kk := ?_) | refine z_d (kk := ?_) | refine z_I (kk := fun _ => ?_) | refine z_J (kk := fun _ => ?_) | refine z_K (kk := fun _ => ?_) | refine z_L (kk := fun _ => ?_) | refine z_T (kk := ?_) | refine z_F (kk := ?_) | refine z_r (kk := fun _ _ _ _ => ?_) | refine z_D (kk := ?_) | refine z_B (kk := ?_) | refine z_S (kk := ?_) | refine z_Q (kk := ?_) | refine z_1 (kk := ?_) | refine z_O (kk := ?_) | refine z_2 (kk := ?_) | refine z_AI (kk := fun _ => ?_) | refine z_AN (kk := fun _ => ?_) | refine z_AB (kk := fun _ => ?_) | refine z_PU (kk := fun _ => ?_) | refine z_PW (kk := fun _ => ?_) | refine z_g (kk := ?_) | refine z_h (kk := ?_)))
          exact W.endl ⟨_, _, ⟨⟨fr h, _, rfl, rfl, hAU', hSx⟩, hmu⟩, (by repeat (first | exact trivial | refine And.intro rfl ?_))⟩
        · have hh0 : h = 0 := by
            have : (h : Int) = 0 := by simpa using hc
            omega
          subst hh0
          have hPI' := AU.done hQ hcb hz hAU
          (repeat (first | with_reducible refine W.seq ?_ | with_reducible refine Ops.nil ?_ | with_reducible refine W.region ?_ | refine z_p (kk := ?_) | refine z_a (kk := ?_) | refine z_y (kk := ?_) | refine z_n (kk := ?_) | refine z_u (kk := ?_) | with_reducible refine W.skip ?_ | with_reducible refine W.endb ?_ | with_reducible refine W.block ?_ | refine W.exit rfl ?_ | refine z_l (kk := ?_) | refine z_f (kk := ?_) | refine z_M (kk := ?_) | refine z_m (kk := ?_) | refine z_e (kk := ?_) | refine z_E (kk := ?_) | refine z_d (kk := ?_) | refine z_I (kk := fun _ => ?_) | refine z_J (kk := fun _ => ?_) | refine z_K (kk := fun _ => ?_) | refine z_L (kk := fun _ => ?_) | refine z_T (kk := ?_) | refine z_F (kk := ?_) | refine z_r (kk := fun _ _ _ _ => ?_) | refine z_D (kk := ?_) | refine z_B (kk := ?_) | refine z_S (kk := ?_) | refine z_Q (kk := ?_) | refine z_1 (kk := ?_) | refine z_O (kk := ?_) | refine z_2 (kk := ?_) | refine z_AI (kk := fun _ => ?_) | refine z_AN (kk := fun _ => ?_) | refine z_AB (kk := fun _ => ?_) | refine z_PU (kk := fun _ => ?_) | refine z_PW (kk := fun _ => ?_) | refine z_g (kk := ?_) | refine z_h (kk := ?_)))
          exact W.endl ⟨_, _, ⟨⟨m + 1, u, v, oc, fr, rfl, rfl, hPI', hSb⟩, by omega⟩, (by repeat (first | exact trivial | refine And.intro rfl ?_))⟩
  · have hml : m = c.length := by omega
    subst hml
    have h56 := hS5.bel.size
    (repeat (first | with_reducible refine W.seq ?_ | with_reducible refine Ops.nil ?_ | with_reducible refine W.region ?_ | refine z_p (kk := ?_) | refine z_a (kk := ?_) | refine z_y (kk := ?_) | refine z_n (kk := ?_) | refine z_u (kk := ?_) | with_reducible refine W.skip ?_ | with_reducible refine W.endb ?_ | with_reducible refine W.block ?_ | refine W.exit rfl ?_ | refine z_l (kk := ?_) | refine z_f (kk := ?_) | refine z_M (kk := ?_) | refine z_m (kk := ?_) | refine z_e (kk := ?_) | refine z_E (kk := ?_) | refine z_d (kk := ?_) | refine z_I (kk := fun _ => ?_) | refine z_J (kk := fun _ => ?_) | refine z_K (kk := fun _ => ?_) | refine z_L (kk := fun _ => ?_) | refine z_T (kk := ?_) | refine z_F (kk := ?_) | refine z_r (kk := fun _ _ _ _ => ?_) | refine z_D (kk := ?_) | refine z_B (kk := ?_) | refine z_S (kk := ?_) | refine z_Q (kk := ?_) | refine z_1 (kk := ?_) | refine z_O (kk := ?_) | refine z_2 (kk := ?_) | refine z_AI (kk := fun _ => ?_) | refine z_AN (kk := fun _ => ?_) | refine z_AB (kk := fun _ => ?_) | refine z_PU (kk := fun _ => ?_) | refine z_PW (kk := fun _ => ?_) | refine z_g (kk := ?_) | refine z_h (kk := ?_)))
    refine Ops.evG rfl rfl rfl (EV.ldN (cs := rng 16 fun j => .int .i64 (if j < 8 then u j else v (j - 8))) rfl rfl rfl rfl hS5.P) ?_
    refine Ops.stN (vs := rng 16 fun j => .int .i64 (if j < 8 then u j else v (j - 8))) (cs := rng 16 fun _ => .int .i64 0) rfl rfl rfl rfl rfl rfl (by intro v hv; obtain ⟨j, _, rfl⟩ := List.mem_map.1 hv; rfl) rfl hS5.Z (fun w8 hu8 => ?_)
    (repeat (first | with_reducible refine W.seq ?_ | with_reducible refine Ops.nil ?_ | with_reducible refine W.region ?_ | refine z_p (kk := ?_) | refine z_a (kk := ?_) | refine z_y (kk := ?_) | refine z_n (kk := ?_) | refine z_u (kk := ?_) | with_reducible refine W.skip ?_ | with_reducible refine W.endb ?_ | with_reducible refine W.block ?_ | refine W.exit rfl ?_ | refine z_l (kk := ?_) | refine z_f (kk := ?_) | refine z_M (kk := ?_) | refine z_m (kk := ?_) | refine z_e (kk := ?_) | refine z_E (kk := ?_) | refine z_d (kk := ?_) | refine z_I (kk := fun _ => ?_) | refine z_J (kk := fun _ => ?_) | refine z_K (kk := fun _ => ?_) | refine z_L (kk := fun _ => ?_) | refine z_T (kk := ?_) | refine z_F (kk := ?_) | refine z_r (kk := fun _ _ _ _ => ?_) | refine z_D (kk := ?_) | refine z_B (kk := ?_) | refine z_S (kk := ?_) | refine z_Q (kk := ?_) | refine z_1 (kk := ?_) | refine z_O (kk := ?_) | refine z_2 (kk := ?_) | refine z_AI (kk := fun _ => ?_) | refine z_AN (kk := fun _ => ?_) | refine z_AB (kk := fun _ => ?_) | refine z_PU (kk := fun _ => ?_) | refine z_PW (kk := fun _ => ?_) | refine z_g (kk := ?_) | refine z_h (kk := ?_)))
    refine W.fretCN rfl rfl rfl rfl hu8.blk ⟨Below.put hS5.bel hu8.kp (fun i e => by omega), u, v, o, hPI, rfl⟩
end Go.Proofs.Ytehjmakiljhjdaa
/- Plain: sums, and the prices that prove the first assignment. -/
namespace Go.Proofs.Ytehjmakiljhjdaa
open Go Go.RowKit Go.Proofs.Ytehjmakiljhjdaa.VW
open Go.Proofs.Ytehjmakiljhjdaa.HG (PI)
def sN (g : Nat → Int) : Nat → Int
  | 0 => 0
  | i + 1 => sN g i + g i
theorem sN_congr {g h : Nat → Int} : ∀ n, (∀ i, i < n → g i = h i) → sN g n = sN h n
  | 0, _ => rfl
  | n + 1, e => by simp only [sN]; rw [sN_congr n (fun i hi => e i (by omega)), e n (by omega)]
theorem sN_add {g h : Nat → Int} : ∀ n, sN (fun i => g i + h i) n = sN g n + sN h n
  | 0 => rfl
  | n + 1 => by simp only [sN]; rw [sN_add n]; omega
theorem sN_le {g h : Nat → Int} : ∀ n, (∀ i, i < n → g i ≤ h i) → sN g n ≤ sN h n
  | 0, _ => Int.le_refl _
  | n + 1, e => by simp only [sN]; have := sN_le n (fun i hi => e i (by omega)); have := e n (by omega); omega
def sL (g : Nat → Int) : List Nat → Int
  | [] => 0
  | x :: l => g x + sL g l
def sOut (g : Nat → Int) (l : List Nat) : Nat → Int := sN fun j => if j ∈ l then 0 else g j
theorem sOut_cons {g : Nat → Int} {l : List Nat} {x : Nat} (hx : ¬ x ∈ l) : ∀ n, sOut g (x :: l) n + (if x < n then g x else 0) = sOut g l n
  | 0 => by simp [sOut, sN]
  | n + 1 => by
    have ih := sOut_cons (g := g) hx n
    simp only [sOut, sN] at ih ⊢
    by_cases e : n = x
    · subst e
      rw [if_pos (show n ∈ n :: l by simp), if_neg hx, if_pos (Nat.lt_succ_self n)]
      rw [if_neg (Nat.lt_irrefl n)] at ih
      omega
    · have e1 : (n ∈ x :: l) = (n ∈ l) := by simp [e]
      have e2 : (x < n + 1) = (x < n) := by apply propext; omega
      simp only [e1, e2]
      omega
theorem sL_out {g : Nat → Int} {n : Nat} : ∀ l : List Nat, l.Nodup → (∀ x, x ∈ l → x < n) → sL g l + sOut g l n = sN g n
  | [], _, _ => by
    have : sOut g [] n = sN g n := sN_congr n (fun i _ => by simp)
    rw [this]; simp [sL]
  | x :: l, hn, hl => by
    have h1 := List.nodup_cons.1 hn
    have ih := sL_out (g := g) (n := n) l h1.2 (fun y hy => hl y (by simp [hy]))
    have := sOut_cons (g := g) h1.1 n
    rw [if_pos (hl x (by simp))] at this
    simp only [sL]
    omega
theorem cover {n : Nat} {l : List Nat} (hn : l.Nodup) (hl : ∀ x, x ∈ l → x < n) (hlen : l.length = n) {j : Nat} (hj : j < n) : j ∈ l := by
  apply Classical.byContradiction
  intro h
  have := nodup_sub (j :: l) (List.range n) (List.nodup_cons.2 ⟨h, hn⟩) (fun x hx => List.mem_range.2 (by
    rcases List.mem_cons.1 hx with e | e
    · omega
    · exact hl x e))
  simp at this
  omega
theorem sL_map {g : Nat → Int} {f : Nat → Nat} : ∀ n, sL g ((List.range n).map f) = sN (fun i => g (f i)) n := by
  have key : ∀ (l : List Nat) (y : Nat), sL g (l ++ [y]) = sL g l + g y := fun l y => by
    induction l with
    | nil => simp [sL]
    | cons x l ih => simp only [List.cons_append, sL, ih]; omega
  intro n
  induction n with
  | zero => rfl
  | succ n ih => rw [List.range_succ, List.map_append, List.map_singleton, key, ih]; rfl
theorem map_inj_nodup {f : Nat → Nat} {n : Nat} (hi : ∀ i k, i < n → k < n → f i = f k → i = k) : ((List.range n).map f).Nodup := by
  refine List.pairwise_map.2 (List.Pairwise.imp_of_mem (fun {a b} ha hb hne e => hne (hi a b (List.mem_range.1 ha) (List.mem_range.1 hb) e)) (List.nodup_range (n := n)))
theorem sN_perm {g : Nat → Int} {f : Nat → Nat} {n : Nat} (h1 : ∀ i, i < n → f i < n) (hi : ∀ i k, i < n → k < n → f i = f k → i = k) : sN (fun i => g (f i)) n = sN g n := by
  have hnd := map_inj_nodup hi
  have hl : ∀ x, x ∈ (List.range n).map f → x < n := fun x hx => by
    obtain ⟨i, hi, rfl⟩ := List.mem_map.1 hx
    exact h1 i (List.mem_range.1 hi)
  have h := sL_out (g := g) _ hnd hl
  have h0 : sOut g ((List.range n).map f) n = sN (fun _ => 0) n := sN_congr n (fun i hi => by rw [if_pos (cover hnd hl (by simp) hi)])
  have hz : ∀ m, sN (fun _ => 0) m = 0 := fun m => by
    induction m with
    | zero => rfl
    | succ m ih => simp [sN, ih]
  rw [h0, hz, sL_map] at h
  omega
theorem asg_inj {a : List Int} {n : Nat} (h : Asg a n) : ∀ i k, i < n → k < n → funA a i = funA a k → i = k := fun i k hi hk e => Classical.byContradiction fun hne => h.ne hi hk hne e
theorem sN_asg {g : Nat → Int} {a : List Int} {n : Nat} (h : Asg a n) : sN (fun i => g (funA a i)) n = sN g n := sN_perm (fun i hi => (h.funA hi).2) (asg_inj h)
theorem totP_sN {c : List (List Int)} {a : List Int} : ∀ n, totP c a n = sN (fun i => eC c i (funA a i)) n
  | 0 => rfl
  | n + 1 => by simp only [totP, sN]; rw [totP_sN n]; rfl
theorem sumP_sN {u v : List Int} : ∀ n, sumP u v n = sN (fun i => u.getD i 0) n + sN (fun i => v.getD i 0) n
  | 0 => rfl
  | n + 1 => by simp only [sumP, sN]; rw [sumP_sN n]; omega
/-- Prices that are allowed show a bound. -/
theorem weak {c : List (List Int)} {u v a : List Int} (hf : ∀ i, i < c.length → ∀ j, j < c.length → u.getD i 0 + v.getD j 0 ≤ ent c i j) (h : Asg a c.length) : sumP u v c.length ≤ totP c a c.length := by
  rw [sumP_sN, totP_sN, ← sN_asg (g := fun i => v.getD i 0) h, ← sN_add]
  exact sN_le _ (fun i hi => hf i hi _ (h.funA hi).2)
def pl (n : Nat) (f : Nat → Int) : List Int := (List.range n).map fun i => f (i + 1)
theorem pl_len (n : Nat) (f : Nat → Int) : (pl n f).length = n := by simp [pl]
theorem pl_get {n : Nat} {f : Nat → Int} {i : Nat} (h : i < n) : (pl n f).getD i 0 = f (i + 1) := by simp [pl, List.getD_eq_getElem?_getD, h]
theorem prov_PI {c : List (List Int)} {u v : Nat → Int} {o : Nat → Nat} (hC : Cst c) (h : PI (cst c) c.length c.length u v o) : Prov c (firstS c c.length 0) (pl c.length u) (pl c.length v) := by
  have hn7 := hC.n7
  have hcb := cst_bd hC
  have hf : ∀ i, i < c.length → ∀ j, j < c.length → (pl c.length u).getD i 0 + (pl c.length v).getD j 0 ≤ ent c i j := fun i hi j hj => by
    rw [pl_get hi, pl_get hj]
    exact h.feas (i + 1) (j + 1) (by omega) (by omega) (by omega) (by omega)
  refine ⟨firstS_Asg, pl_len _ _, pl_len _ _, fun i hi => ?_, hf, ?_⟩
  · unfold Bd
    rw [pl_get hi, pl_get hi]
    obtain ⟨j, j1, j2, j3⟩ := h.sur (i + 1) (by omega) (by omega)
    have ht := h.tight j j1 j2 (by omega)
    rw [j3] at ht
    have a1 := h.vneg j j1 j2
    have a2 := h.vlo j j1 j2
    have b1 := h.vneg (i + 1) (by omega) (by omega)
    have b2 := h.vlo (i + 1) (by omega) (by omega)
    have := hcb (i + 1) j (by omega) (by omega) j1 j2
    omega
  · refine Int.le_antisymm ?_ ?_
    · exact weak hf firstS_Asg
    · have hx : ∀ i : Nat, ∃ j : Nat, i < c.length → j < c.length ∧ o (j + 1) = i + 1 := fun i => by
        by_cases hi : i < c.length
        · obtain ⟨j, j1, j2, j3⟩ := h.sur (i + 1) (by omega) (by omega)
          exact ⟨j - 1, fun _ => ⟨by omega, by rw [show j - 1 + 1 = j from by omega]; exact j3⟩⟩
        · exact ⟨0, fun e => absurd e hi⟩
      obtain ⟨f, hfx⟩ := Classical.axiomOfChoice hx
      have hok : OkF c g0 0 c.length f := fun i _ hi _ => ⟨(hfx i hi).1, Nat.zero_testBit _, fun q hq hq2 _ e => by
        have h1 := (hfx i hi).2
        have h2 := (hfx q hq2).2
        rw [e, h1] at h2
        omega⟩
      have hA := asg_of hok
      have hfa : ∀ i, i < c.length → funA (lstF c.length f) i = f i := fun i hi => by unfold funA; rw [lstF_get hi]; rfl
      have htot : totP c (lstF c.length f) c.length = sumP (pl c.length u) (pl c.length v) c.length := by
        rw [sumP_sN, totP_sN, ← sN_asg (g := fun i => (pl c.length v).getD i 0) hA, ← sN_add]
        refine sN_congr _ (fun i hi => ?_)
        rw [hfa i hi, pl_get hi, pl_get (hfx i hi).1]
        have ht := h.tight (f i + 1) (by omega) (by have := (hfx i hi).1; omega) (by rw [(hfx i hi).2]; omega)
        rw [(hfx i hi).2] at ht
        exact ht.symm
      rw [first_tot, ← htot]
      exact min_le hA
/-- What proves an assignment makes it cheapest. -/
theorem Prov.min {c : List (List Int)} {a u v : List Int} (h : Prov c a u v) {b : List Int} (hb : Asg b c.length) : totP c a c.length ≤ totP c b c.length := by
  obtain ⟨h1, h2, h3, h4, h5, h6⟩ := h
  rw [← h6]
  exact weak h5 hb
/-- No room at the pairs of a cheapest assignment. -/
theorem Prov.tight {c : List (List Int)} {a u v b : List Int} (h : Prov c a u v) (hb : Asg b c.length) (ht : totP c b c.length = totP c a c.length) {i : Nat} (hi : i < c.length) : u.getD i 0 + v.getD (funA b i) 0 = ent c i (funA b i) := by
  obtain ⟨h1, h2, h3, h4, h5, h6⟩ := h
  rw [← ht, sumP_sN, totP_sN, ← sN_asg (g := fun i => v.getD i 0) hb, ← sN_add] at h6
  have key : ∀ (g k : Nat → Int) (n : Nat), (∀ i, i < n → g i ≤ k i) → sN g n = sN k n → ∀ i, i < n → g i = k i := fun g k n => by
    induction n with
    | zero => intro _ _ i hi; omega
    | succ n ih =>
      intro hle he i hi
      simp only [sN] at he
      have h1 := sN_le n (fun i hi => hle i (by omega))
      have h2 := hle n (by omega)
      by_cases e : i = n
      · subst e; omega
      · exact ih (fun i hi => hle i (by omega)) (by omega) i (by omega)
  exact key _ _ _ (fun i hi => h5 i hi _ (hb.funA hi).2) h6 i hi
end Go.Proofs.Ytehjmakiljhjdaa
