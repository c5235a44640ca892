/- A part of the walk: what this seat's statements share. -/
import Derived.Test.YtdiljpnfochndaaZG11
import Derived.Test.YtdiljpnfochndaaZG9
import Derived.Test.YtdiljpnfochndaaZG8
set_option linter.unusedVariables false
set_option linter.unusedSimpArgs false
set_option linter.unusedSectionVars false
namespace Go.Proofs.Ytdiljpnfochndaa
open Go Go.RowKit Go.Proofs.Ytdiljpnfochndaa.VW
open Go.Proofs.Ytdiljpnfochndaa.HP (Nd kid wor leafB rd evB gameOf gameOf_TF TF TK ValP k_ PI PlanS bestM')
attribute [local irreducible] W Ops OrdA VW.Ord OrdX
def asked (l : List Nd) (dep : List Int) (f : Int → Bool) (i : Nat) : List Int := ((List.range i).filter fun j : Nat => f j && evB dep j && !leafB l j).map fun j : Nat => (j : Int)
theorem asked_succ (l : List Nd) (dep : List Int) (f : Int → Bool) (i : Nat) : asked l dep f (i + 1) = asked l dep f i ++ if f i && evB dep i && !leafB l i then [(i : Int)] else [] := by
  unfold asked
  rw [List.range_succ, List.filter_append, List.map_append]
  congr 1
  by_cases h : (f i && evB dep i && !leafB l i) = true
  · simp [h]
  · simp [h]
theorem asked_congr {l : List Nd} {dep : List Int} {f g : Int → Bool} {i : Nat} (h : ∀ j : Nat, j < i → f j = g j) : asked l dep f i = asked l dep g i := by
  unfold asked
  congr 1
  apply List.filter_congr
  intro j hj
  rw [h j (by simpa using hj)]
theorem kp_false {S : Nat → Prop} {w w' : World} (h : Kp (fun _ => False) w w') : Kp S w w' := h.mono fun _ _ e => e.elim
set_option maxHeartbeats 4000000 in
theorem plan_c {wB w : World} {g fi : Nat} {l : List Nd} {dep : List Int} {first cap : List Value} {ch : Int → Int} {S : Nat → Prop} {J : List Int → World → Prop} (hG : Game wB g l dep) (hb : Below wB.heap.size wB w) (hT : TF l dep) (hfm : memB (Fns.L Try.prog) fi = true)
    (hch : ∀ i : Nat, i < l.length → leafB l i = false → ch i ∈ kid l i)
    (hcall : ∀ (t : List Int) (i : Nat) (w' : World), i < l.length → leafB l i = false → evB dep i = true → Below wB.heap.size wB w' → J t w' → Calls Try.prog fi (app3 first [.int .i64 i] cap).toArray w' (Ret fun v w'' => v = .int .i64 (ch i) ∧ Below wB.heap.size wB w'' ∧ J (t ++ [(i : Int)]) w'' ∧ Kp S w' w''))
    (hS : ∀ i, S i → wB.heap.size ≤ i ∧ i < w.heap.size) (hJ : ∀ t w1 w2 (T : Nat → Prop), J t w1 → Kp T w1 w2 → (∀ i, T i → w.heap.size ≤ i) → J t w2) (h0 : J [] w) :
    Calls Try.prog 78 #[.pointer (some ⟨g, 0, none⟩), .func (.func fi) first.toArray cap.toArray] w (Ret fun r w' => ∃ f out, PlanS l dep ch f out ∧ OI 3 (Value.int .i64) wB w' r out ∧ J (asked l dep f l.length) w') := by
  obtain ⟨tv, dv, hBg, hTr, hD⟩ := hG.out
  obtain ⟨At, ct, rfl⟩ := hTr.sl
  have hn1 := hT.n1
  have hn60 := hT.n60
  have hdl := hT.len
  have hws := hb.size
  refine calls_W (vs := [_, _]) Try.func78 rfl (by kernel_rfl) rfl ?_
  (repeat (first | with_reducible refine W.seq ?_ | with_reducible refine Ops.nil ?_ | with_reducible refine W.region ?_ | refine z_p (kk := ?_) | refine z_a (kk := ?_) | refine z_y (kk := ?_) | refine z_n (kk := ?_) | refine z_u (kk := ?_) | with_reducible refine W.skip ?_ | with_reducible refine W.endb ?_ | with_reducible refine W.block ?_ | refine W.exit rfl ?_ | refine z_l (kk := ?_) | refine z_f (kk := ?_) | refine z_M (kk := ?_) | refine z_m (kk := ?_) | refine z_e (kk := ?_) | refine z_E (kk := ?_) | refine z_d (kk := ?_) | refine z_I (kk := fun _ => ?_) | refine z_J (kk := fun _ => ?_) | refine z_K (kk := fun _ => ?_) | refine z_L (kk := fun _ => ?_) | refine z_T (kk := ?_) | refine z_F (kk := ?_) | refine z_k (kk := fun _ _ _ _ _ => ?_) | refine z_w (kk := fun _ _ => ?_) | refine z_s (kk := fun _ _ _ _ => ?_) | refine z_D (kk := ?_) | refine z_g (kk := ?_) | refine z_h (kk := ?_)))
  refine Ops.bs1 rfl rfl rfl rfl rfl rfl rfl rfl rfl (fun w1 r1 hM1 => ?_)
  have hb1 : Below wB.heap.size wB w1 := Below.put hb hM1.kp (fun _ e => e.elim)
  have hs1 : SlI w1 (.slice (some ⟨r1, 0, none⟩) 1 1) [-1] := own_sl (z := (0 : Int)) (xs := [-1]) (own_one hM1)
  have hJ1 := hJ _ _ _ _ h0 hM1.kp (fun _ e => e.elim)
  have hz1 := hM1.size
  (repeat (first | with_reducible refine W.seq ?_ | with_reducible refine Ops.nil ?_ | with_reducible refine W.region ?_ | refine z_p (kk := ?_) | refine z_a (kk := ?_) | refine z_y (kk := ?_) | refine z_n (kk := ?_) | refine z_u (kk := ?_) | with_reducible refine W.skip ?_ | with_reducible refine W.endb ?_ | with_reducible refine W.block ?_ | refine W.exit rfl ?_ | refine z_l (kk := ?_) | refine z_f (kk := ?_) | refine z_M (kk := ?_) | refine z_m (kk := ?_) | refine z_e (kk := ?_) | refine z_E (kk := ?_) | refine z_d (kk := ?_) | refine z_I (kk := fun _ => ?_) | refine z_J (kk := fun _ => ?_) | refine z_K (kk := fun _ => ?_) | refine z_L (kk := fun _ => ?_) | refine z_T (kk := ?_) | refine z_F (kk := ?_) | refine z_k (kk := fun _ _ _ _ _ => ?_) | refine z_w (kk := fun _ _ => ?_) | refine z_s (kk := fun _ _ _ _ => ?_) | refine z_D (kk := ?_) | refine z_g (kk := ?_) | refine z_h (kk := ?_)))
  refine Ops.call rfl rfl rfl rfl rfl (repeat_c (n := l.length) hs1 hn1 hn60) (fun r w2 hR => ?_)
  have hO2 : OI 3 (Value.int .i64) wB w2 r (List.replicate l.length (-1)) := hR.up hb1
  have hge2 : ∀ k, r.ownBlock = some k → w.heap.size ≤ k := fun k hk => by have := hR.ge k hk; omega
  have hJ2 := hJ _ _ _ (fun _ => False) hJ1 (Kp.of_below hR.bel) (fun _ e => e.elim)
  have hb2 := hO2.bel
  have hz2 := hR.bel.size
  clear hR hs1
  have hl2 : (List.replicate l.length (-1 : Int)).length = l.length := by simp
  obtain ⟨Ar, cr, rfl⟩ := hO2.sh
  rw [hl2] at *
  (repeat (first | with_reducible refine W.seq ?_ | with_reducible refine Ops.nil ?_ | with_reducible refine W.region ?_ | refine z_p (kk := ?_) | refine z_a (kk := ?_) | refine z_y (kk := ?_) | refine z_n (kk := ?_) | refine z_u (kk := ?_) | with_reducible refine W.skip ?_ | with_reducible refine W.endb ?_ | with_reducible refine W.block ?_ | refine W.exit rfl ?_ | refine z_l (kk := ?_) | refine z_f (kk := ?_) | refine z_M (kk := ?_) | refine z_m (kk := ?_) | refine z_e (kk := ?_) | refine z_E (kk := ?_) | refine z_d (kk := ?_) | refine z_I (kk := fun _ => ?_) | refine z_J (kk := fun _ => ?_) | refine z_K (kk := fun _ => ?_) | refine z_L (kk := fun _ => ?_) | refine z_T (kk := ?_) | refine z_F (kk := ?_) | refine z_k (kk := fun _ _ _ _ _ => ?_) | refine z_w (kk := fun _ _ => ?_) | refine z_s (kk := fun _ _ _ _ => ?_) | refine z_D (kk := ?_) | refine z_g (kk := ?_) | refine z_h (kk := ?_)))
  refine Ops.mkM rfl rfl rfl (fun w3 mb hm3 k3 hmb => ?_)
  have hO3 := hO2.kp k3 (fun _ e => e.elim)
  have hJ3 := hJ _ _ _ _ hJ2 k3 (fun _ e => e.elim)
  have hz3 := k3.size
  have hne : (Value.slice Ar l.length cr).ownBlock ≠ some mb := fun e => by have := (hO2.own.lt mb e).2; omega
  refine Ops.ins rfl rfl rfl rfl rfl rfl rfl rfl hm3 (fun w4 hm4 k4 hz4 => ?_)
  have hO4 := hO3.kp k4 (fun i hi => ⟨by have := hO2.bel.size; omega, fun e => hne (by rw [e, hi])⟩)
  have hJ4 := hJ _ _ _ _ hJ3 k4 (fun i hi => by omega)
  have hm4' : MapB w4 mb (fun k => k == 0) := by simpa using hm4
  have hP4 := PI.start l dep ch
  have hmbw : w.heap.size ≤ mb := by omega
  have hb4 := hO4.bel
  (repeat (first | with_reducible refine W.seq ?_ | with_reducible refine Ops.nil ?_ | with_reducible refine W.region ?_ | refine z_p (kk := ?_) | refine z_a (kk := ?_) | refine z_y (kk := ?_) | refine z_n (kk := ?_) | refine z_u (kk := ?_) | with_reducible refine W.skip ?_ | with_reducible refine W.endb ?_ | with_reducible refine W.block ?_ | refine W.exit rfl ?_ | refine z_l (kk := ?_) | refine z_f (kk := ?_) | refine z_M (kk := ?_) | refine z_m (kk := ?_) | refine z_e (kk := ?_) | refine z_E (kk := ?_) | refine z_d (kk := ?_) | refine z_I (kk := fun _ => ?_) | refine z_J (kk := fun _ => ?_) | refine z_K (kk := fun _ => ?_) | refine z_L (kk := fun _ => ?_) | refine z_T (kk := ?_) | refine z_F (kk := ?_) | refine z_k (kk := fun _ _ _ _ _ => ?_) | refine z_w (kk := fun _ _ => ?_) | refine z_s (kk := fun _ _ _ _ => ?_) | refine z_D (kk := ?_) | refine z_g (kk := ?_) | refine z_h (kk := ?_)))
  refine W.loop (fun m ρ w5 => ∃ (i : Nat) (f : Int → Bool) (out : List Int), m = l.length - i ∧ i ≤ l.length ∧ ρ = [(0, .pointer (some ⟨g, 0, none⟩)), (1, .func (.func fi) first.toArray cap.toArray), (5, .slice Ar l.length cr), (6, .map (some mb)), (23, .slice At l.length ct), (24, .int .i64 l.length), (25, .int .i64 i)] ∧ OI 3 (Value.int .i64) wB w5 (.slice Ar l.length cr) out ∧ MapB w5 mb f ∧ PI l dep ch i f out ∧ J (asked l dep f i) w5)
    ⟨_, _, ⟨0, _, _, rfl, Nat.zero_le _, rfl, hO4, hm4', hP4, hJ4⟩, (by repeat (first | exact trivial | refine And.intro rfl ?_))⟩ ?_
  clear hO4 hm4 hm4' hP4 hJ4 hO3 hJ3 hO2 hJ2 hm3 hJ1
  rintro m ρ w5 ⟨i, f, out, rfl, hi, rfl, hO, hM, hP, hJt⟩
  have hb5 := hO.bel
  have hol := hP.len
  (repeat (first | with_reducible refine W.seq ?_ | with_reducible refine Ops.nil ?_ | with_reducible refine W.region ?_ | refine z_p (kk := ?_) | refine z_a (kk := ?_) | refine z_y (kk := ?_) | refine z_n (kk := ?_) | refine z_u (kk := ?_) | with_reducible refine W.skip ?_ | with_reducible refine W.endb ?_ | with_reducible refine W.block ?_ | refine W.exit rfl ?_ | refine z_l (kk := ?_) | refine z_f (kk := ?_) | refine z_M (kk := ?_) | refine z_m (kk := ?_) | refine z_e (kk := ?_) | refine z_E (kk := ?_) | refine z_d (kk := ?_) | refine z_I (kk := fun _ => ?_) | refine z_J (kk := fun _ => ?_) | refine z_K (kk := fun _ => ?_) | refine z_L (kk := fun _ => ?_) | refine z_T (kk := ?_) | refine z_F (kk := ?_) | refine z_k (kk := fun _ _ _ _ _ => ?_) | refine z_w (kk := fun _ _ => ?_) | refine z_s (kk := fun _ _ _ _ => ?_) | refine z_D (kk := ?_) | refine z_g (kk := ?_) | refine z_h (kk := ?_)))
  (first | refine W.condD rfl (fun hc => ?_) (fun hc => ?_) | refine W.condE rfl (fun hc => ?_) (fun hc => ?_) | refine W.condN rfl (fun hc => ?_) (fun hc => ?_) | refine W.cond rfl (fun hc => ?_) (fun hc => ?_))
  · have hil : i < l.length := by omega
    (repeat (first | with_reducible refine W.seq ?_ | with_reducible refine Ops.nil ?_ | with_reducible refine W.region ?_ | refine z_p (kk := ?_) | refine z_a (kk := ?_) | refine z_y (kk := ?_) | refine z_n (kk := ?_) | refine z_u (kk := ?_) | with_reducible refine W.skip ?_ | with_reducible refine W.endb ?_ | with_reducible refine W.block ?_ | refine W.exit rfl ?_ | refine z_l (kk := ?_) | refine z_f (kk := ?_) | refine z_M (kk := ?_) | refine z_m (kk := ?_) | refine z_e (kk := ?_) | refine z_E (kk := ?_) | refine z_d (kk := ?_) | refine z_I (kk := fun _ => ?_) | refine z_J (kk := fun _ => ?_) | refine z_K (kk := fun _ => ?_) | refine z_L (kk := fun _ => ?_) | refine z_T (kk := ?_) | refine z_F (kk := ?_) | refine z_g (kk := ?_) | refine z_h (kk := ?_)))
    refine Ops.rdNB rfl rfl rfl rfl rfl rfl (fun _ => rfl) rfl rfl rfl rfl rfl rfl rfl hTr hb5 (by omega) (by omega) (fun Ak ck _ hks => ?_)
    refine Ops.alloc rfl rfl rfl rfl (fun w6 b8 hM6 => ?_)
    (repeat (first | with_reducible refine W.seq ?_ | with_reducible refine Ops.nil ?_ | with_reducible refine W.region ?_ | refine z_p (kk := ?_) | refine z_a (kk := ?_) | refine z_y (kk := ?_) | refine z_n (kk := ?_) | refine z_u (kk := ?_) | with_reducible refine W.skip ?_ | with_reducible refine W.endb ?_ | with_reducible refine W.block ?_ | refine W.exit rfl ?_ | refine z_l (kk := ?_) | refine z_f (kk := ?_) | refine z_M (kk := ?_) | refine z_m (kk := ?_) | refine z_e (kk := ?_) | refine z_E (kk := ?_) | refine z_d (kk := ?_) | refine z_I (kk := fun _ => ?_) | refine z_J (kk := fun _ => ?_) | refine z_K (kk := fun _ => ?_) | refine z_L (kk := fun _ => ?_) | refine z_T (kk := ?_) | refine z_F (kk := ?_) | refine z_k (kk := fun _ _ _ _ _ => ?_) | refine z_w (kk := fun _ _ => ?_) | refine z_s (kk := fun _ _ _ _ => ?_) | refine z_D (kk := ?_) | refine z_g (kk := ?_) | refine z_h (kk := ?_)))
    refine Ops.st2 rfl rfl rfl rfl rfl rfl rfl rfl hM6.at_ (fun w7 hu7 => ?_)
    have k7 := hM6.kp.trans hu7.kp
    have e6 := hM6.r_eq
    have hB8 := hu7.blk
    have hO7 := hO.kp k7 (fun j hj => by rcases hj with hj | hj; exact hj.elim; exact ⟨by have := hO.bel.size; omega, fun e => by have := (hO.own.lt j e).2; omega⟩)
    have hM7 := hM.kp k7 (fun hj => by rcases hj with hj | hj; exact hj.elim; have := hM.lt; omega)
    have hJ7 := hJ _ _ _ _ hJt k7 (fun j hj => by rcases hj with hj | hj; exact hj.elim; have := hM.lt; omega)
    have hb7 := hO7.bel
    have hG7 := hG.below hb7
    clear hM hO hJt
    (repeat (first | with_reducible refine W.seq ?_ | with_reducible refine Ops.nil ?_ | with_reducible refine W.region ?_ | refine z_p (kk := ?_) | refine z_a (kk := ?_) | refine z_y (kk := ?_) | refine z_n (kk := ?_) | refine z_u (kk := ?_) | with_reducible refine W.skip ?_ | with_reducible refine W.endb ?_ | with_reducible refine W.block ?_ | refine W.exit rfl ?_ | refine z_l (kk := ?_) | refine z_f (kk := ?_) | refine z_M (kk := ?_) | refine z_m (kk := ?_) | refine z_e (kk := ?_) | refine z_E (kk := ?_) | refine z_d (kk := ?_) | refine z_I (kk := fun _ => ?_) | refine z_J (kk := fun _ => ?_) | refine z_K (kk := fun _ => ?_) | refine z_L (kk := fun _ => ?_) | refine z_T (kk := ?_) | refine z_F (kk := ?_) | refine z_k (kk := fun _ _ _ _ _ => ?_) | refine z_w (kk := fun _ _ => ?_) | refine z_s (kk := fun _ _ _ _ => ?_) | refine z_D (kk := ?_) | refine z_g (kk := ?_) | refine z_h (kk := ?_)))
    refine Ops.look rfl rfl rfl rfl rfl rfl rfl rfl hM7 ?_
    cases hfi : f i with
    | false =>
      have hP' := hP.skip hT hil (.inl hfi)
      have hJ' : J (asked l dep f (i + 1)) w7 := by rw [asked_succ, hfi]; simpa using hJ7
      (repeat (first | with_reducible refine W.seq ?_ | with_reducible refine Ops.nil ?_ | with_reducible refine W.region ?_ | refine z_p (kk := ?_) | refine z_a (kk := ?_) | refine z_y (kk := ?_) | refine z_n (kk := ?_) | refine z_u (kk := ?_) | with_reducible refine W.skip ?_ | with_reducible refine W.endb ?_ | with_reducible refine W.block ?_ | refine W.exit rfl ?_ | refine z_l (kk := ?_) | refine z_f (kk := ?_) | refine z_M (kk := ?_) | refine z_m (kk := ?_) | refine z_e (kk := ?_) | refine z_E (kk := ?_) | refine z_d (kk := ?_) | refine z_I (kk := fun _ => ?_) | refine z_J (kk := fun _ => ?_) | refine z_K (kk := fun _ => ?_) | refine z_L (kk := fun _ => ?_) | refine z_T (kk := ?_) | refine z_F (kk := ?_) | refine z_k (kk := fun _ _ _ _ _ => ?_) | refine z_w (kk := fun _ _ => ?_) | refine z_s (kk := fun _ _ _ _ => ?_) | refine z_D (kk := ?_) | refine z_g (kk := ?_) | refine z_h (kk := ?_)))
      refine W.condT rfl (by first | rfl | assumption | (simp only [bnf] <;> omega) | (simp only [*, bnf]; done) | fail) ?_
      (repeat (first | with_reducible refine W.seq ?_ | with_reducible refine Ops.nil ?_ | with_reducible refine W.region ?_ | refine z_p (kk := ?_) | refine z_a (kk := ?_) | refine z_y (kk := ?_) | refine z_n (kk := ?_) | refine z_u (kk := ?_) | with_reducible refine W.skip ?_ | with_reducible refine W.endb ?_ | with_reducible refine W.block ?_ | refine W.exit rfl ?_ | refine z_l (kk := ?_) | refine z_f (kk := ?_) | refine z_M (kk := ?_) | refine z_m (kk := ?_) | refine z_e (kk := ?_) | refine z_E (kk := ?_) | refine z_d (kk := ?_) | refine z_I (kk := fun _ => ?_) | refine z_J (kk := fun _ => ?_) | refine z_K (kk := fun _ => ?_) | refine z_L (kk := fun _ => ?_) | refine z_T (kk := ?_) | refine z_F (kk := ?_) | refine z_k (kk := fun _ _ _ _ _ => ?_) | refine z_w (kk := fun _ _ => ?_) | refine z_s (kk := fun _ _ _ _ => ?_) | refine z_D (kk := ?_) | refine z_g (kk := ?_) | refine z_h (kk := ?_)))
      exact W.endl ⟨_, _, ⟨⟨i + 1, f, out, rfl, by omega, rfl, hO7, hM7, hP', hJ'⟩, by omega⟩, (by repeat (first | exact trivial | refine And.intro rfl ?_))⟩
    | true =>
      (repeat (first | with_reducible refine W.seq ?_ | with_reducible refine Ops.nil ?_ | with_reducible refine W.region ?_ | refine z_p (kk := ?_) | refine z_a (kk := ?_) | refine z_y (kk := ?_) | refine z_n (kk := ?_) | refine z_u (kk := ?_) | with_reducible refine W.skip ?_ | with_reducible refine W.endb ?_ | with_reducible refine W.block ?_ | refine W.exit rfl ?_ | refine z_l (kk := ?_) | refine z_f (kk := ?_) | refine z_M (kk := ?_) | refine z_m (kk := ?_) | refine z_e (kk := ?_) | refine z_E (kk := ?_) | refine z_d (kk := ?_) | refine z_I (kk := fun _ => ?_) | refine z_J (kk := fun _ => ?_) | refine z_K (kk := fun _ => ?_) | refine z_L (kk := fun _ => ?_) | refine z_T (kk := ?_) | refine z_F (kk := ?_) | refine z_k (kk := fun _ _ _ _ _ => ?_) | refine z_w (kk := fun _ _ => ?_) | refine z_s (kk := fun _ _ _ _ => ?_) | refine z_D (kk := ?_) | refine z_g (kk := ?_) | refine z_h (kk := ?_)))
      refine Ops.callS rfl rfl rfl rfl rfl (isLeaf_c hG7 i (by omega) (by omega)) ?_
      cases hlf : leafB l i with
      | true =>
        have hP' := hP.skip hT hil (.inr hlf)
        have hJ' : J (asked l dep f (i + 1)) w7 := by rw [asked_succ, hlf]; simpa using hJ7
        (repeat (first | with_reducible refine W.seq ?_ | with_reducible refine Ops.nil ?_ | with_reducible refine W.region ?_ | refine z_p (kk := ?_) | refine z_a (kk := ?_) | refine z_y (kk := ?_) | refine z_n (kk := ?_) | refine z_u (kk := ?_) | with_reducible refine W.skip ?_ | with_reducible refine W.endb ?_ | with_reducible refine W.block ?_ | refine W.exit rfl ?_ | refine z_l (kk := ?_) | refine z_f (kk := ?_) | refine z_M (kk := ?_) | refine z_m (kk := ?_) | refine z_e (kk := ?_) | refine z_E (kk := ?_) | refine z_d (kk := ?_) | refine z_I (kk := fun _ => ?_) | refine z_J (kk := fun _ => ?_) | refine z_K (kk := fun _ => ?_) | refine z_L (kk := fun _ => ?_) | refine z_T (kk := ?_) | refine z_F (kk := ?_) | refine z_k (kk := fun _ _ _ _ _ => ?_) | refine z_w (kk := fun _ _ => ?_) | refine z_s (kk := fun _ _ _ _ => ?_) | refine z_D (kk := ?_) | refine z_g (kk := ?_) | refine z_h (kk := ?_)))
        refine W.condT rfl (by first | rfl | assumption | (simp only [bnf] <;> omega) | (simp only [*, bnf]; done) | fail) ?_
        (repeat (first | with_reducible refine W.seq ?_ | with_reducible refine Ops.nil ?_ | with_reducible refine W.region ?_ | refine z_p (kk := ?_) | refine z_a (kk := ?_) | refine z_y (kk := ?_) | refine z_n (kk := ?_) | refine z_u (kk := ?_) | with_reducible refine W.skip ?_ | with_reducible refine W.endb ?_ | with_reducible refine W.block ?_ | refine W.exit rfl ?_ | refine z_l (kk := ?_) | refine z_f (kk := ?_) | refine z_M (kk := ?_) | refine z_m (kk := ?_) | refine z_e (kk := ?_) | refine z_E (kk := ?_) | refine z_d (kk := ?_) | refine z_I (kk := fun _ => ?_) | refine z_J (kk := fun _ => ?_) | refine z_K (kk := fun _ => ?_) | refine z_L (kk := fun _ => ?_) | refine z_T (kk := ?_) | refine z_F (kk := ?_) | refine z_k (kk := fun _ _ _ _ _ => ?_) | refine z_w (kk := fun _ _ => ?_) | refine z_s (kk := fun _ _ _ _ => ?_) | refine z_D (kk := ?_) | refine z_g (kk := ?_) | refine z_h (kk := ?_)))
        exact W.endl ⟨_, _, ⟨⟨i + 1, f, out, rfl, by omega, rfl, hO7, hM7, hP', hJ'⟩, by omega⟩, (by repeat (first | exact trivial | refine And.intro rfl ?_))⟩
      | false =>
        (repeat (first | with_reducible refine W.seq ?_ | with_reducible refine Ops.nil ?_ | with_reducible refine W.region ?_ | refine z_p (kk := ?_) | refine z_a (kk := ?_) | refine z_y (kk := ?_) | refine z_n (kk := ?_) | refine z_u (kk := ?_) | with_reducible refine W.skip ?_ | with_reducible refine W.endb ?_ | with_reducible refine W.block ?_ | refine W.exit rfl ?_ | refine z_l (kk := ?_) | refine z_f (kk := ?_) | refine z_M (kk := ?_) | refine z_m (kk := ?_) | refine z_e (kk := ?_) | refine z_E (kk := ?_) | refine z_d (kk := ?_) | refine z_I (kk := fun _ => ?_) | refine z_J (kk := fun _ => ?_) | refine z_K (kk := fun _ => ?_) | refine z_L (kk := fun _ => ?_) | refine z_T (kk := ?_) | refine z_F (kk := ?_) | refine z_k (kk := fun _ _ _ _ _ => ?_) | refine z_w (kk := fun _ _ => ?_) | refine z_s (kk := fun _ _ _ _ => ?_) | refine z_D (kk := ?_) | refine z_g (kk := ?_) | refine z_h (kk := ?_)))
        refine W.condF rfl (by first | rfl | assumption | (simp only [bnf] <;> omega) | (simp only [*, bnf]; done) | fail) ?_
        (repeat (first | with_reducible refine W.seq ?_ | with_reducible refine Ops.nil ?_ | with_reducible refine W.region ?_ | refine z_p (kk := ?_) | refine z_a (kk := ?_) | refine z_y (kk := ?_) | refine z_n (kk := ?_) | refine z_u (kk := ?_) | with_reducible refine W.skip ?_ | with_reducible refine W.endb ?_ | with_reducible refine W.block ?_ | refine W.exit rfl ?_ | refine z_l (kk := ?_) | refine z_f (kk := ?_) | refine z_M (kk := ?_) | refine z_m (kk := ?_) | refine z_e (kk := ?_) | refine z_E (kk := ?_) | refine z_d (kk := ?_) | refine z_I (kk := fun _ => ?_) | refine z_J (kk := fun _ => ?_) | refine z_K (kk := fun _ => ?_) | refine z_L (kk := fun _ => ?_) | refine z_T (kk := ?_) | refine z_F (kk := ?_) | refine z_k (kk := fun _ _ _ _ _ => ?_) | refine z_w (kk := fun _ _ => ?_) | refine z_s (kk := fun _ _ _ _ => ?_) | refine z_D (kk := ?_) | refine z_g (kk := ?_) | refine z_h (kk := ?_)))
        refine Ops.callS rfl rfl rfl rfl rfl (atMax_c hG7 i (by omega) (by omega)) ?_
        cases hev : evB dep i with
        | true =>
          have hmem := hch i hil hlf
          have hP' := hP.max hT hil hfi hlf hev hmem
          have hckd := Go.Proofs.Ytdiljpnfochndaa.HP.mem_kid hT hil hmem
          (repeat (first | with_reducible refine W.seq ?_ | with_reducible refine Ops.nil ?_ | with_reducible refine W.region ?_ | refine z_p (kk := ?_) | refine z_a (kk := ?_) | refine z_y (kk := ?_) | refine z_n (kk := ?_) | refine z_u (kk := ?_) | with_reducible refine W.skip ?_ | with_reducible refine W.endb ?_ | with_reducible refine W.block ?_ | refine W.exit rfl ?_ | refine z_l (kk := ?_) | refine z_f (kk := ?_) | refine z_M (kk := ?_) | refine z_m (kk := ?_) | refine z_e (kk := ?_) | refine z_E (kk := ?_) | refine z_d (kk := ?_) | refine z_I (kk := fun _ => ?_) | refine z_J (kk := fun _ => ?_) | refine z_K (kk := fun _ => ?_) | refine z_L (kk := fun _ => ?_) | refine z_T (kk := ?_) | refine z_F (kk := ?_) | refine z_k (kk := fun _ _ _ _ _ => ?_) | refine z_w (kk := fun _ _ => ?_) | refine z_s (kk := fun _ _ _ _ => ?_) | refine z_D (kk := ?_) | refine z_g (kk := ?_) | refine z_h (kk := ?_)))
          refine W.condT rfl (by first | rfl | assumption | (simp only [bnf] <;> omega) | (simp only [*, bnf]; done) | fail) ?_
          (repeat (first | with_reducible refine W.seq ?_ | with_reducible refine Ops.nil ?_ | with_reducible refine W.region ?_ | refine z_p (kk := ?_) | refine z_a (kk := ?_) | refine z_y (kk := ?_) | refine z_n (kk := ?_) | refine z_u (kk := ?_) | with_reducible refine W.skip ?_ | with_reducible refine W.endb ?_ | with_reducible refine W.block ?_ | refine W.exit rfl ?_ | refine z_l (kk := ?_) | refine z_f (kk := ?_) | refine z_M (kk := ?_) | refine z_m (kk := ?_) | refine z_e (kk := ?_) | refine z_E (kk := ?_) | refine z_d (kk := ?_) | refine z_I (kk := fun _ => ?_) | refine z_J (kk := fun _ => ?_) | refine z_K (kk := fun _ => ?_) | refine z_L (kk := fun _ => ?_) | refine z_T (kk := ?_) | refine z_F (kk := ?_) | refine z_k (kk := fun _ _ _ _ _ => ?_) | refine z_w (kk := fun _ _ => ?_) | refine z_s (kk := fun _ _ _ _ => ?_) | refine z_D (kk := ?_) | refine z_g (kk := ?_) | refine z_h (kk := ?_)))
          refine Ops.call rfl rfl rfl rfl hfm (hcall _ i w7 hil hlf hev hb7 hJ7) (fun r w8 hR => ?_)
          obtain ⟨rfl, hb8, hJ8, k8⟩ := hR
          have hO8 := hO7.kp k8 (fun j hj => ⟨(hS j hj).1, fun e => by have := hge2 j e; have := (hS j hj).2; omega⟩)
          have hM8 := hM7.kp k8 (fun hj => by have := (hS mb hj).2; omega)
          refine Ops.wrO (enc := Value.int .i64) rfl rfl rfl rfl rfl rfl rfl rfl rfl rfl rfl rfl (by simp) rfl hO8 (by omega) (fun w9 _ hO9 k9 _ => ?_)
          have hM9 := hM8.kp k9 (fun e => hne e)
          have hJ9 := hJ _ _ _ _ hJ8 k9 (fun j hj => hge2 j hj)
          have hb9 := hO9.bel
          (repeat (first | with_reducible refine W.seq ?_ | with_reducible refine Ops.nil ?_ | with_reducible refine W.region ?_ | refine z_p (kk := ?_) | refine z_a (kk := ?_) | refine z_y (kk := ?_) | refine z_n (kk := ?_) | refine z_u (kk := ?_) | with_reducible refine W.skip ?_ | with_reducible refine W.endb ?_ | with_reducible refine W.block ?_ | refine W.exit rfl ?_ | refine z_l (kk := ?_) | refine z_f (kk := ?_) | refine z_M (kk := ?_) | refine z_m (kk := ?_) | refine z_e (kk := ?_) | refine z_E (kk := ?_) | refine z_d (kk := ?_) | refine z_I (kk := fun _ => ?_) | refine z_J (kk := fun _ => ?_) | refine z_K (kk := fun _ => ?_) | refine z_L (kk := fun _ => ?_) | refine z_T (kk := ?_) | refine z_F (kk := ?_) | refine z_k (kk := fun _ _ _ _ _ => ?_) | refine z_w (kk := fun _ _ => ?_) | refine z_s (kk := fun _ _ _ _ => ?_) | refine z_D (kk := ?_) | refine z_g (kk := ?_) | refine z_h (kk := ?_)))
          have hout : (out.set i (ch i)).getD i 0 = ch i := Go.Proofs.Ytdiljpnfochndaa.HP.getD_set_eq (by omega)
          refine Ops.rdBn (enc := Value.int .i64) (z := (0 : Int)) rfl rfl rfl rfl rfl rfl (fun _ => rfl) rfl rfl rfl rfl rfl rfl hO9.sl (Below.refl _ _) (by simp; omega) (fun _ => ?_)
          rw [hout]
          refine Ops.put rfl rfl rfl rfl rfl rfl rfl rfl hM9 (fun w10 hM10 k10 _ => ?_)
          have hO10 := hO9.kp k10 (fun j hj => ⟨by have := hb.size; omega, fun e => hne (by rw [e, hj])⟩)
          have hJ10 := hJ _ _ _ _ hJ9 k10 (fun j hj => by omega)
          have hJ' : J (asked l dep (fun k => f k || k == ch i) (i + 1)) w10 := by
            rw [asked_congr (g := f) (fun j hj => by show (f j || (j : Int) == ch i) = f j; rw [show ((j : Int) == ch i) = false by simp; omega, Bool.or_false]), asked_succ, hfi, hev, hlf]
            exact hJ10
          (repeat (first | with_reducible refine W.seq ?_ | with_reducible refine Ops.nil ?_ | with_reducible refine W.region ?_ | refine z_p (kk := ?_) | refine z_a (kk := ?_) | refine z_y (kk := ?_) | refine z_n (kk := ?_) | refine z_u (kk := ?_) | with_reducible refine W.skip ?_ | with_reducible refine W.endb ?_ | with_reducible refine W.block ?_ | refine W.exit rfl ?_ | refine z_l (kk := ?_) | refine z_f (kk := ?_) | refine z_M (kk := ?_) | refine z_m (kk := ?_) | refine z_e (kk := ?_) | refine z_E (kk := ?_) | refine z_d (kk := ?_) | refine z_I (kk := fun _ => ?_) | refine z_J (kk := fun _ => ?_) | refine z_K (kk := fun _ => ?_) | refine z_L (kk := fun _ => ?_) | refine z_T (kk := ?_) | refine z_F (kk := ?_) | refine z_k (kk := fun _ _ _ _ _ => ?_) | refine z_w (kk := fun _ _ => ?_) | refine z_s (kk := fun _ _ _ _ => ?_) | refine z_D (kk := ?_) | refine z_g (kk := ?_) | refine z_h (kk := ?_)))
          exact W.endl ⟨_, _, ⟨⟨i + 1, _, _, rfl, by omega, rfl, hO10, hM10, hP', hJ'⟩, by omega⟩, (by repeat (first | exact trivial | refine And.intro rfl ?_))⟩
        | false =>
          have hkl := hT.klen i hil
          (repeat (first | with_reducible refine W.seq ?_ | with_reducible refine Ops.nil ?_ | with_reducible refine W.region ?_ | refine z_p (kk := ?_) | refine z_a (kk := ?_) | refine z_y (kk := ?_) | refine z_n (kk := ?_) | refine z_u (kk := ?_) | with_reducible refine W.skip ?_ | with_reducible refine W.endb ?_ | with_reducible refine W.block ?_ | refine W.exit rfl ?_ | refine z_l (kk := ?_) | refine z_f (kk := ?_) | refine z_M (kk := ?_) | refine z_m (kk := ?_) | refine z_e (kk := ?_) | refine z_E (kk := ?_) | refine z_d (kk := ?_) | refine z_I (kk := fun _ => ?_) | refine z_J (kk := fun _ => ?_) | refine z_K (kk := fun _ => ?_) | refine z_L (kk := fun _ => ?_) | refine z_T (kk := ?_) | refine z_F (kk := ?_) | refine z_k (kk := fun _ _ _ _ _ => ?_) | refine z_w (kk := fun _ _ => ?_) | refine z_s (kk := fun _ _ _ _ => ?_) | refine z_D (kk := ?_) | refine z_g (kk := ?_) | refine z_h (kk := ?_)))
          refine W.condF rfl (by first | rfl | assumption | (simp only [bnf] <;> omega) | (simp only [*, bnf]; done) | fail) ?_
          (repeat (first | with_reducible refine W.seq ?_ | with_reducible refine Ops.nil ?_ | with_reducible refine W.region ?_ | refine z_p (kk := ?_) | refine z_a (kk := ?_) | refine z_y (kk := ?_) | refine z_n (kk := ?_) | refine z_u (kk := ?_) | with_reducible refine W.skip ?_ | with_reducible refine W.endb ?_ | with_reducible refine W.block ?_ | refine W.exit rfl ?_ | refine z_l (kk := ?_) | refine z_f (kk := ?_) | refine z_M (kk := ?_) | refine z_m (kk := ?_) | refine z_e (kk := ?_) | refine z_E (kk := ?_) | refine z_d (kk := ?_) | refine z_I (kk := fun _ => ?_) | refine z_J (kk := fun _ => ?_) | refine z_K (kk := fun _ => ?_) | refine z_L (kk := fun _ => ?_) | refine z_T (kk := ?_) | refine z_F (kk := ?_) | refine z_k (kk := fun _ _ _ _ _ => ?_) | refine z_w (kk := fun _ _ => ?_) | refine z_s (kk := fun _ _ _ _ => ?_) | refine z_D (kk := ?_) | refine z_g (kk := ?_) | refine z_h (kk := ?_)))
          refine W.loop (fun m ρ w8 => ∃ (j : Nat) (h : Int → Bool), m = (kid l i).length - j ∧ j ≤ (kid l i).length ∧ ρ = [(0, .pointer (some ⟨g, 0, none⟩)), (1, .func (.func fi) first.toArray cap.toArray), (5, .slice Ar l.length cr), (6, .map (some mb)), (23, .slice At l.length ct), (24, .int .i64 l.length), (25, .int .i64 i), (31, .slice Ak (kid l i).length ck), (32, .int .i64 (kid l i).length), (33, .int .i64 j)] ∧ OI 3 (Value.int .i64) wB w8 (.slice Ar l.length cr) out ∧ MapB w8 mb h ∧ (∀ k, h k = (f k || decide (∃ b : Nat, b < j ∧ k_ l i b = k))) ∧ J (asked l dep f i) w8)
            ⟨_, _, ⟨0, f, rfl, Nat.zero_le _, rfl, hO7, hM7, fun k => by rw [decide_eq_false (fun ⟨b, hb, _⟩ => by omega), Bool.or_false], hJ7⟩, (by repeat (first | exact trivial | refine And.intro rfl ?_))⟩ ?_
          clear hM7 hJ7 hO7
          rintro m ρ w8 ⟨j, h, rfl, hj, rfl, hO, hM, hh, hJt⟩
          have hb8 := hO.bel
          (repeat (first | with_reducible refine W.seq ?_ | with_reducible refine Ops.nil ?_ | with_reducible refine W.region ?_ | refine z_p (kk := ?_) | refine z_a (kk := ?_) | refine z_y (kk := ?_) | refine z_n (kk := ?_) | refine z_u (kk := ?_) | with_reducible refine W.skip ?_ | with_reducible refine W.endb ?_ | with_reducible refine W.block ?_ | refine W.exit rfl ?_ | refine z_l (kk := ?_) | refine z_f (kk := ?_) | refine z_M (kk := ?_) | refine z_m (kk := ?_) | refine z_e (kk := ?_) | refine z_E (kk := ?_) | refine z_d (kk := ?_) | refine z_I (kk := fun _ => ?_) | refine z_J (kk := fun _ => ?_) | refine z_K (kk := fun _ => ?_) | refine z_L (kk := fun _ => ?_) | refine z_T (kk := ?_) | refine z_F (kk := ?_) | refine z_k (kk := fun _ _ _ _ _ => ?_) | refine z_w (kk := fun _ _ => ?_) | refine z_s (kk := fun _ _ _ _ => ?_) | refine z_D (kk := ?_) | refine z_g (kk := ?_) | refine z_h (kk := ?_)))
          (first | refine W.condD rfl (fun hc => ?_) (fun hc => ?_) | refine W.condE rfl (fun hc => ?_) (fun hc => ?_) | refine W.condN rfl (fun hc => ?_) (fun hc => ?_) | refine W.cond rfl (fun hc => ?_) (fun hc => ?_))
          · have hjl : j < (kid l i).length := by omega
            (repeat (first | with_reducible refine W.seq ?_ | with_reducible refine Ops.nil ?_ | with_reducible refine W.region ?_ | refine z_p (kk := ?_) | refine z_a (kk := ?_) | refine z_y (kk := ?_) | refine z_n (kk := ?_) | refine z_u (kk := ?_) | with_reducible refine W.skip ?_ | with_reducible refine W.endb ?_ | with_reducible refine W.block ?_ | refine W.exit rfl ?_ | refine z_l (kk := ?_) | refine z_f (kk := ?_) | refine z_M (kk := ?_) | refine z_m (kk := ?_) | refine z_e (kk := ?_) | refine z_E (kk := ?_) | refine z_d (kk := ?_) | refine z_I (kk := fun _ => ?_) | refine z_J (kk := fun _ => ?_) | refine z_K (kk := fun _ => ?_) | refine z_L (kk := fun _ => ?_) | refine z_T (kk := ?_) | refine z_F (kk := ?_) | refine z_k (kk := fun _ _ _ _ _ => ?_) | refine z_w (kk := fun _ _ => ?_) | refine z_s (kk := fun _ _ _ _ => ?_) | refine z_D (kk := ?_) | refine z_g (kk := ?_) | refine z_h (kk := ?_)))
            refine Ops.put rfl rfl rfl rfl rfl rfl rfl rfl hM (fun w9 hM9 k9 _ => ?_)
            have hO9 := hO.kp k9 (fun q hq => ⟨by have := hb.size; omega, fun e => hne (by rw [e, hq])⟩)
            have hJ9 := hJ _ _ _ _ hJt k9 (fun q hq => by omega)
            have hh9 : ∀ k, (h k || k == (kid l i).getD j 0) = (f k || decide (∃ b : Nat, b < j + 1 ∧ k_ l i b = k)) := fun k => by
              rw [hh k, Bool.or_assoc]
              congr 1
              rw [show (k == (kid l i).getD j 0) = decide (k = (kid l i).getD j 0) from rfl, ← Bool.decide_or, decide_eq_decide]
              constructor
              · rintro (⟨b, hb, e⟩ | e)
                · exact ⟨b, by omega, e⟩
                · exact ⟨j, by omega, e.symm⟩
              · rintro ⟨b, hb, e⟩
                by_cases hbj : b = j
                · subst hbj; exact .inr e.symm
                · exact .inl ⟨b, by omega, e⟩
            (repeat (first | with_reducible refine W.seq ?_ | with_reducible refine Ops.nil ?_ | with_reducible refine W.region ?_ | refine z_p (kk := ?_) | refine z_a (kk := ?_) | refine z_y (kk := ?_) | refine z_n (kk := ?_) | refine z_u (kk := ?_) | with_reducible refine W.skip ?_ | with_reducible refine W.endb ?_ | with_reducible refine W.block ?_ | refine W.exit rfl ?_ | refine z_l (kk := ?_) | refine z_f (kk := ?_) | refine z_M (kk := ?_) | refine z_m (kk := ?_) | refine z_e (kk := ?_) | refine z_E (kk := ?_) | refine z_d (kk := ?_) | refine z_I (kk := fun _ => ?_) | refine z_J (kk := fun _ => ?_) | refine z_K (kk := fun _ => ?_) | refine z_L (kk := fun _ => ?_) | refine z_T (kk := ?_) | refine z_F (kk := ?_) | refine z_k (kk := fun _ _ _ _ _ => ?_) | refine z_w (kk := fun _ _ => ?_) | refine z_s (kk := fun _ _ _ _ => ?_) | refine z_D (kk := ?_) | refine z_g (kk := ?_) | refine z_h (kk := ?_)))
            exact W.endl ⟨_, _, ⟨⟨j + 1, _, rfl, by omega, rfl, hO9, hM9, hh9, hJ9⟩, by omega⟩, (by repeat (first | exact trivial | refine And.intro rfl ?_))⟩
          · have hjl : j = (kid l i).length := by omega
            subst hjl
            have hP' := hP.min hT hil hfi hev hh
            have hJ' : J (asked l dep h (i + 1)) w8 := by
              rw [asked_congr (g := f) (fun j hj => by rw [hh j, decide_eq_false (fun ⟨b, hb, e⟩ => by have := hT.kin i b hil hb; omega), Bool.or_false]), asked_succ, hev]
              simpa using hJt
            (repeat (first | with_reducible refine W.seq ?_ | with_reducible refine Ops.nil ?_ | with_reducible refine W.region ?_ | refine z_p (kk := ?_) | refine z_a (kk := ?_) | refine z_y (kk := ?_) | refine z_n (kk := ?_) | refine z_u (kk := ?_) | with_reducible refine W.skip ?_ | with_reducible refine W.endb ?_ | with_reducible refine W.block ?_ | refine W.exit rfl ?_ | refine z_l (kk := ?_) | refine z_f (kk := ?_) | refine z_M (kk := ?_) | refine z_m (kk := ?_) | refine z_e (kk := ?_) | refine z_E (kk := ?_) | refine z_d (kk := ?_) | refine z_I (kk := fun _ => ?_) | refine z_J (kk := fun _ => ?_) | refine z_K (kk := fun _ => ?_) | refine z_L (kk := fun _ => ?_) | refine z_T (kk := ?_) | refine z_F (kk := ?_) | refine z_k (kk := fun _ _ _ _ _ => ?_) | refine z_w (kk := fun _ _ => ?_) | refine z_s (kk := fun _ _ _ _ => ?_) | refine z_D (kk := ?_) | refine z_g (kk := ?_) | refine z_h (kk := ?_)))
            exact W.endl ⟨_, _, ⟨⟨i + 1, h, out, rfl, by omega, rfl, hO, hM, hP', hJ'⟩, by omega⟩, (by repeat (first | exact trivial | refine And.intro rfl ?_))⟩
  · have hil : i = l.length := by omega
    subst hil
    (repeat (first | with_reducible refine W.seq ?_ | with_reducible refine Ops.nil ?_ | with_reducible refine W.region ?_ | refine z_p (kk := ?_) | refine z_a (kk := ?_) | refine z_y (kk := ?_) | refine z_n (kk := ?_) | refine z_u (kk := ?_) | with_reducible refine W.skip ?_ | with_reducible refine W.endb ?_ | with_reducible refine W.block ?_ | refine W.exit rfl ?_ | refine z_l (kk := ?_) | refine z_f (kk := ?_) | refine z_M (kk := ?_) | refine z_m (kk := ?_) | refine z_e (kk := ?_) | refine z_E (kk := ?_) | refine z_d (kk := ?_) | refine z_I (kk := fun _ => ?_) | refine z_J (kk := fun _ => ?_) | refine z_K (kk := fun _ => ?_) | refine z_L (kk := fun _ => ?_) | refine z_T (kk := ?_) | refine z_F (kk := ?_) | refine z_k (kk := fun _ _ _ _ _ => ?_) | refine z_w (kk := fun _ _ => ?_) | refine z_s (kk := fun _ _ _ _ => ?_) | refine z_D (kk := ?_) | refine z_g (kk := ?_) | refine z_h (kk := ?_)))
    exact W.fret rfl ⟨f, out, hP, hO, hJt⟩
end Go.Proofs.Ytdiljpnfochndaa
namespace Go.Proofs.Ytdiljpnfochndaa
open Go Go.RowKit Go.Proofs.Ytdiljpnfochndaa.VW
open Go.Proofs.Ytdiljpnfochndaa.HP (Nd kid wor leafB rd evB gameOf gameOf_TF TF TK ValP k_ PI PlanS bestM' Dn)
attribute [local irreducible] W Ops OrdA VW.Ord OrdX
def chB (l : List Nd) (vs : List Int) (i : Int) : Int := bestM' vs (rd vs i) (kid l i)
theorem chB_mem {l : List Nd} {dep vs : List Int} {wf : Int → Int} (hv : ValP l dep wf vs) {i : Nat} (hi : i < l.length) (hl : leafB l i = false) : chB l vs i ∈ kid l i := (Go.Proofs.Ytdiljpnfochndaa.HP.bestM_mem (Go.Proofs.Ytdiljpnfochndaa.HP.val_att hv hi hl)).1
theorem plan1_c {w : World} {g b4 b6 : Nat} {l : List Nd} {dep vs : List Int} {sv : Value} (hG : Game w g l dep) (hT : TF l dep) (h4 : Blk w b4 #[.pointer (some ⟨g, 0, none⟩)] 69) (h6 : Blk w b6 #[sv] 24) (hv : SlI w sv vs) (hvl : vs.length = l.length) (i : Nat) (hi : i < l.length) :
    Calls Try.prog 79 #[.int .i64 i, .pointer (some ⟨b4, 0, none⟩), .pointer (some ⟨b6, 0, none⟩)] w (Ret fun v w' => v = .int .i64 (chB l vs i) ∧ Below w.heap.size w w') := by
  refine calls_W (vs := [_, _, _]) Try.func79 rfl (by kernel_rfl) rfl ?_
  (repeat (first | with_reducible refine W.seq ?_ | with_reducible refine Ops.nil ?_ | with_reducible refine W.region ?_ | refine z_p (kk := ?_) | refine z_a (kk := ?_) | refine z_y (kk := ?_) | refine z_n (kk := ?_) | refine z_u (kk := ?_) | with_reducible refine W.skip ?_ | with_reducible refine W.endb ?_ | with_reducible refine W.block ?_ | refine W.exit rfl ?_ | refine z_l (kk := ?_) | refine z_f (kk := ?_) | refine z_M (kk := ?_) | refine z_m (kk := ?_) | refine z_e (kk := ?_) | refine z_E (kk := ?_) | refine z_d (kk := ?_) | refine z_I (kk := fun _ => ?_) | refine z_J (kk := fun _ => ?_) | refine z_K (kk := fun _ => ?_) | refine z_L (kk := fun _ => ?_) | refine z_T (kk := ?_) | refine z_F (kk := ?_) | refine z_k (kk := fun _ _ _ _ _ => ?_) | refine z_w (kk := fun _ _ => ?_) | refine z_s (kk := fun _ _ _ _ => ?_) | refine z_D (kk := ?_) | refine z_g (kk := ?_) | refine z_h (kk := ?_)))
  refine Ops.call rfl rfl rfl rfl rfl (best_c hG hv hvl (i : Int) (by omega) (by omega) (fun j hj => by have := hT.kin i j hi hj; simp only [k_] at this; omega)) (fun r w1 hR => ?_)
  obtain ⟨rfl, hb1⟩ := hR
  (repeat (first | with_reducible refine W.seq ?_ | with_reducible refine Ops.nil ?_ | with_reducible refine W.region ?_ | refine z_p (kk := ?_) | refine z_a (kk := ?_) | refine z_y (kk := ?_) | refine z_n (kk := ?_) | refine z_u (kk := ?_) | with_reducible refine W.skip ?_ | with_reducible refine W.endb ?_ | with_reducible refine W.block ?_ | refine W.exit rfl ?_ | refine z_l (kk := ?_) | refine z_f (kk := ?_) | refine z_M (kk := ?_) | refine z_m (kk := ?_) | refine z_e (kk := ?_) | refine z_E (kk := ?_) | refine z_d (kk := ?_) | refine z_I (kk := fun _ => ?_) | refine z_J (kk := fun _ => ?_) | refine z_K (kk := fun _ => ?_) | refine z_L (kk := fun _ => ?_) | refine z_T (kk := ?_) | refine z_F (kk := ?_) | refine z_k (kk := fun _ _ _ _ _ => ?_) | refine z_w (kk := fun _ _ => ?_) | refine z_s (kk := fun _ _ _ _ => ?_) | refine z_D (kk := ?_) | refine z_g (kk := ?_) | refine z_h (kk := ?_)))
  exact W.fret rfl ⟨by rw [bestM_eq]; rfl, hb1⟩
set_option maxHeartbeats 1000000 in
theorem planF_c {w : World} {v : Value} {l : List Nd} (hT : TreeM w v l) (hl : l.length ≤ 9223372036854775807) :
    Calls Try.prog 43 #[v] w (Ret fun r w' => Below w.heap.size w w' ∧ match gameOf l with
      | none => r = .tuple #[.slice none 0 0, .int .i64 2]
      | some dep => ∃ vs u f out, ValP l dep (wor l) vs ∧ PlanS l dep (chB l vs) f out ∧ r = .tuple #[u, .int .i64 0] ∧ OI 3 (Value.int .i64) w w' u out) := by
  refine calls_W (vs := [_]) Try.func43 rfl (by kernel_rfl) rfl ?_
  (repeat (first | with_reducible refine W.seq ?_ | with_reducible refine Ops.nil ?_ | with_reducible refine W.region ?_ | refine z_p (kk := ?_) | refine z_a (kk := ?_) | refine z_y (kk := ?_) | refine z_n (kk := ?_) | refine z_u (kk := ?_) | with_reducible refine W.skip ?_ | with_reducible refine W.endb ?_ | with_reducible refine W.block ?_ | refine W.exit rfl ?_ | refine z_l (kk := ?_) | refine z_f (kk := ?_) | refine z_M (kk := ?_) | refine z_m (kk := ?_) | refine z_e (kk := ?_) | refine z_E (kk := ?_) | refine z_d (kk := ?_) | refine z_I (kk := fun _ => ?_) | refine z_J (kk := fun _ => ?_) | refine z_K (kk := fun _ => ?_) | refine z_L (kk := fun _ => ?_) | refine z_T (kk := ?_) | refine z_F (kk := ?_) | refine z_k (kk := fun _ _ _ _ _ => ?_) | refine z_w (kk := fun _ _ => ?_) | refine z_s (kk := fun _ _ _ _ => ?_) | refine z_D (kk := ?_) | refine z_g (kk := ?_) | refine z_h (kk := ?_)))
  refine Ops.call rfl rfl rfl rfl rfl (newGame_c hT hl) (fun r w1 hR => ?_)
  obtain ⟨hb1, hR⟩ := hR
  cases hg : gameOf l with
  | none =>
    rw [hg] at hR
    obtain ⟨p, hp1, rfl⟩ := hR
    (repeat (first | with_reducible refine W.seq ?_ | with_reducible refine Ops.nil ?_ | with_reducible refine W.region ?_ | refine z_p (kk := ?_) | refine z_a (kk := ?_) | refine z_y (kk := ?_) | refine z_n (kk := ?_) | refine z_u (kk := ?_) | with_reducible refine W.skip ?_ | with_reducible refine W.endb ?_ | with_reducible refine W.block ?_ | refine W.exit rfl ?_ | refine z_l (kk := ?_) | refine z_f (kk := ?_) | refine z_M (kk := ?_) | refine z_m (kk := ?_) | refine z_e (kk := ?_) | refine z_E (kk := ?_) | refine z_d (kk := ?_) | refine z_I (kk := fun _ => ?_) | refine z_J (kk := fun _ => ?_) | refine z_K (kk := fun _ => ?_) | refine z_L (kk := fun _ => ?_) | refine z_T (kk := ?_) | refine z_F (kk := ?_) | refine z_k (kk := fun _ _ _ _ _ => ?_) | refine z_w (kk := fun _ _ => ?_) | refine z_s (kk := fun _ _ _ _ => ?_) | refine z_D (kk := ?_) | refine z_g (kk := ?_) | refine z_h (kk := ?_)))
    refine Ops.alloc rfl rfl rfl rfl (fun w2 b4 hM2 => ?_)
    refine Ops.st rfl rfl rfl rfl rfl rfl hp1 hM2.at_ (by decide) (fun w3 hu => ?_)
    have k3 := hM2.kp.trans hu.kp
    have e2 := hM2.r_eq
    have hb3 := Below.put hb1 k3 (fun i hi => by rcases hi with hi | hi; exact hi.elim; have := hb1.size; omega)
    (repeat (first | with_reducible refine W.seq ?_ | with_reducible refine Ops.nil ?_ | with_reducible refine W.region ?_ | refine z_p (kk := ?_) | refine z_a (kk := ?_) | refine z_y (kk := ?_) | refine z_n (kk := ?_) | refine z_u (kk := ?_) | with_reducible refine W.skip ?_ | with_reducible refine W.endb ?_ | with_reducible refine W.block ?_ | refine W.exit rfl ?_ | refine z_l (kk := ?_) | refine z_f (kk := ?_) | refine z_M (kk := ?_) | refine z_m (kk := ?_) | refine z_e (kk := ?_) | refine z_E (kk := ?_) | refine z_d (kk := ?_) | refine z_I (kk := fun _ => ?_) | refine z_J (kk := fun _ => ?_) | refine z_K (kk := fun _ => ?_) | refine z_L (kk := fun _ => ?_) | refine z_T (kk := ?_) | refine z_F (kk := ?_) | refine z_k (kk := fun _ _ _ _ _ => ?_) | refine z_w (kk := fun _ _ => ?_) | refine z_s (kk := fun _ _ _ _ => ?_) | refine z_D (kk := ?_) | refine z_g (kk := ?_) | refine z_h (kk := ?_)))
    refine W.condT rfl (by first | rfl | assumption | (simp only [bnf] <;> omega) | (simp only [*, bnf]; done) | fail) ?_
    (repeat (first | with_reducible refine W.seq ?_ | with_reducible refine Ops.nil ?_ | with_reducible refine W.region ?_ | refine z_p (kk := ?_) | refine z_a (kk := ?_) | refine z_y (kk := ?_) | refine z_n (kk := ?_) | refine z_u (kk := ?_) | with_reducible refine W.skip ?_ | with_reducible refine W.endb ?_ | with_reducible refine W.block ?_ | refine W.exit rfl ?_ | refine z_l (kk := ?_) | refine z_f (kk := ?_) | refine z_M (kk := ?_) | refine z_m (kk := ?_) | refine z_e (kk := ?_) | refine z_E (kk := ?_) | refine z_d (kk := ?_) | refine z_I (kk := fun _ => ?_) | refine z_J (kk := fun _ => ?_) | refine z_K (kk := fun _ => ?_) | refine z_L (kk := fun _ => ?_) | refine z_T (kk := ?_) | refine z_F (kk := ?_) | refine z_k (kk := fun _ _ _ _ _ => ?_) | refine z_w (kk := fun _ _ => ?_) | refine z_s (kk := fun _ _ _ _ => ?_) | refine z_D (kk := ?_) | refine z_g (kk := ?_) | refine z_h (kk := ?_)))
    exact W.fret rfl ⟨hb3, rfl⟩
  | some dep =>
    rw [hg] at hR
    obtain ⟨g, rfl, hgs, hG⟩ := hR
    have hTF := gameOf_TF hg
    (repeat (first | with_reducible refine W.seq ?_ | with_reducible refine Ops.nil ?_ | with_reducible refine W.region ?_ | refine z_p (kk := ?_) | refine z_a (kk := ?_) | refine z_y (kk := ?_) | refine z_n (kk := ?_) | refine z_u (kk := ?_) | with_reducible refine W.skip ?_ | with_reducible refine W.endb ?_ | with_reducible refine W.block ?_ | refine W.exit rfl ?_ | refine z_l (kk := ?_) | refine z_f (kk := ?_) | refine z_M (kk := ?_) | refine z_m (kk := ?_) | refine z_e (kk := ?_) | refine z_E (kk := ?_) | refine z_d (kk := ?_) | refine z_I (kk := fun _ => ?_) | refine z_J (kk := fun _ => ?_) | refine z_K (kk := fun _ => ?_) | refine z_L (kk := fun _ => ?_) | refine z_T (kk := ?_) | refine z_F (kk := ?_) | refine z_k (kk := fun _ _ _ _ _ => ?_) | refine z_w (kk := fun _ _ => ?_) | refine z_s (kk := fun _ _ _ _ => ?_) | refine z_D (kk := ?_) | refine z_g (kk := ?_) | refine z_h (kk := ?_)))
    refine Ops.alloc rfl rfl rfl rfl (fun w2 b4 hM2 => ?_)
    refine Ops.st rfl rfl rfl rfl rfl rfl rfl hM2.at_ (by decide) (fun w3 hu3 => ?_)
    have k3 := hM2.kp.trans hu3.kp
    have e2 := hM2.r_eq
    have hb13 : Below w1.heap.size w1 w3 := Below.put (Below.refl _ _) k3 (fun i hi => by rcases hi with hi | hi; exact hi.elim; omega)
    have hb3 := Below.via hb1 hb13
    have hB4 := hu3.blk
    have hG3 := hG.below hb13
    (repeat (first | with_reducible refine W.seq ?_ | with_reducible refine Ops.nil ?_ | with_reducible refine W.region ?_ | refine z_p (kk := ?_) | refine z_a (kk := ?_) | refine z_y (kk := ?_) | refine z_n (kk := ?_) | refine z_u (kk := ?_) | with_reducible refine W.skip ?_ | with_reducible refine W.endb ?_ | with_reducible refine W.block ?_ | refine W.exit rfl ?_ | refine z_l (kk := ?_) | refine z_f (kk := ?_) | refine z_M (kk := ?_) | refine z_m (kk := ?_) | refine z_e (kk := ?_) | refine z_E (kk := ?_) | refine z_d (kk := ?_) | refine z_I (kk := fun _ => ?_) | refine z_J (kk := fun _ => ?_) | refine z_K (kk := fun _ => ?_) | refine z_L (kk := fun _ => ?_) | refine z_T (kk := ?_) | refine z_F (kk := ?_) | refine z_k (kk := fun _ _ _ _ _ => ?_) | refine z_w (kk := fun _ _ => ?_) | refine z_s (kk := fun _ _ _ _ => ?_) | refine z_D (kk := ?_) | refine z_g (kk := ?_) | refine z_h (kk := ?_)))
    refine W.condF rfl (by first | rfl | assumption | (simp only [bnf] <;> omega) | (simp only [*, bnf]; done) | fail) ?_
    (repeat (first | with_reducible refine W.seq ?_ | with_reducible refine Ops.nil ?_ | with_reducible refine W.region ?_ | refine z_p (kk := ?_) | refine z_a (kk := ?_) | refine z_y (kk := ?_) | refine z_n (kk := ?_) | refine z_u (kk := ?_) | with_reducible refine W.skip ?_ | with_reducible refine W.endb ?_ | with_reducible refine W.block ?_ | refine W.exit rfl ?_ | refine z_l (kk := ?_) | refine z_f (kk := ?_) | refine z_M (kk := ?_) | refine z_m (kk := ?_) | refine z_e (kk := ?_) | refine z_E (kk := ?_) | refine z_d (kk := ?_) | refine z_I (kk := fun _ => ?_) | refine z_J (kk := fun _ => ?_) | refine z_K (kk := fun _ => ?_) | refine z_L (kk := fun _ => ?_) | refine z_T (kk := ?_) | refine z_F (kk := ?_) | refine z_k (kk := fun _ _ _ _ _ => ?_) | refine z_w (kk := fun _ _ => ?_) | refine z_s (kk := fun _ _ _ _ => ?_) | refine z_D (kk := ?_) | refine z_g (kk := ?_) | refine z_h (kk := ?_)))
    refine Ops.call rfl rfl rfl rfl rfl (values_c hG3 hTF (Clo.worth hG3)) (fun r w4 hR => ?_)
    obtain ⟨vs, hvs, hI⟩ := hR
    have hb4 := Below.via hb3 hI.bel
    have hG4 := hG3.below hI.bel
    have hB44 := hB4.kp (Kp.of_below (S := fun _ => False) hI.bel) (fun e => e)
    have hvl := hvs.len
    have hv4 : SlI w4 r vs := hI.sl
    have hr1 : r.oneCell' = true := by obtain ⟨A, c, rfl⟩ := Sl.sl hv4; rfl
    refine Ops.alloc rfl rfl rfl rfl (fun w5 b6 hM5 => ?_)
    refine Ops.st rfl rfl rfl rfl rfl rfl hr1 hM5.at_ (by decide) (fun w6 hu6 => ?_)
    have k6 := hM5.kp.trans hu6.kp
    have e5 := hM5.r_eq
    have hb46 : Below w4.heap.size w4 w6 := Below.put (Below.refl _ _) k6 (fun i hi => by rcases hi with hi | hi; exact hi.elim; omega)
    have hb6 := Below.via hb4 hb46
    have hG6 := hG4.below hb46
    have hB46 := hB44.kp (Kp.of_below (S := fun _ => False) hb46) (fun e => e)
    have hB66 := hu6.blk
    have hv6 := Sl.below hv4 hb46
    (repeat (first | with_reducible refine W.seq ?_ | with_reducible refine Ops.nil ?_ | with_reducible refine W.region ?_ | refine z_p (kk := ?_) | refine z_a (kk := ?_) | refine z_y (kk := ?_) | refine z_n (kk := ?_) | refine z_u (kk := ?_) | with_reducible refine W.skip ?_ | with_reducible refine W.endb ?_ | with_reducible refine W.block ?_ | refine W.exit rfl ?_ | refine z_l (kk := ?_) | refine z_f (kk := ?_) | refine z_M (kk := ?_) | refine z_m (kk := ?_) | refine z_e (kk := ?_) | refine z_E (kk := ?_) | refine z_d (kk := ?_) | refine z_I (kk := fun _ => ?_) | refine z_J (kk := fun _ => ?_) | refine z_K (kk := fun _ => ?_) | refine z_L (kk := fun _ => ?_) | refine z_T (kk := ?_) | refine z_F (kk := ?_) | refine z_k (kk := fun _ _ _ _ _ => ?_) | refine z_w (kk := fun _ _ => ?_) | refine z_s (kk := fun _ _ _ _ => ?_) | refine z_D (kk := ?_) | refine z_g (kk := ?_) | refine z_h (kk := ?_)))
    refine Ops.call rfl rfl rfl rfl rfl (plan_c (wB := w6) (first := []) (cap := [.pointer (some ⟨b4, 0, none⟩), .pointer (some ⟨b6, 0, none⟩)]) (fi := 79) (ch := chB l vs) (S := fun _ => False) (J := fun _ _ => True) hG6 (Below.refl _ _) hTF rfl (fun i hi hlf => chB_mem hvs hi hlf) (fun t i w' hi hlf hev hb' _ => ?_) (fun i h => h.elim) (fun _ _ _ _ _ _ _ => trivial) trivial) (fun r w7 hR => ?_)
    · exact (plan1_c (hG6.below hb') hTF (hB46.kp (Kp.of_below (S := fun _ => False) hb') (fun e => e)) (hB66.kp (Kp.of_below (S := fun _ => False) hb') (fun e => e)) (Sl.below hv6 hb') hvl i hi).mono fun e w'' ⟨v, he, hv, hb''⟩ => ⟨v, he, hv, Below.via hb' hb'', trivial, Kp.of_below hb''⟩
    · obtain ⟨f, out, hP, hO, _⟩ := hR
      (repeat (first | with_reducible refine W.seq ?_ | with_reducible refine Ops.nil ?_ | with_reducible refine W.region ?_ | refine z_p (kk := ?_) | refine z_a (kk := ?_) | refine z_y (kk := ?_) | refine z_n (kk := ?_) | refine z_u (kk := ?_) | with_reducible refine W.skip ?_ | with_reducible refine W.endb ?_ | with_reducible refine W.block ?_ | refine W.exit rfl ?_ | refine z_l (kk := ?_) | refine z_f (kk := ?_) | refine z_M (kk := ?_) | refine z_m (kk := ?_) | refine z_e (kk := ?_) | refine z_E (kk := ?_) | refine z_d (kk := ?_) | refine z_I (kk := fun _ => ?_) | refine z_J (kk := fun _ => ?_) | refine z_K (kk := fun _ => ?_) | refine z_L (kk := fun _ => ?_) | refine z_T (kk := ?_) | refine z_F (kk := ?_) | refine z_k (kk := fun _ _ _ _ _ => ?_) | refine z_w (kk := fun _ _ => ?_) | refine z_s (kk := fun _ _ _ _ => ?_) | refine z_D (kk := ?_) | refine z_g (kk := ?_) | refine z_h (kk := ?_)))
      exact W.fret rfl ⟨Below.via hb6 hO.bel, vs, _, f, out, hvs, hP, rfl, hO.up hb6⟩
/-- The reference's reached nodes behind j children of node i. -/
structure RP (l : List Nd) (dep : List Int) (ch : Int → Int) (i j : Nat) (bs : List Bool) : Prop where
  len : bs.length = l.length
  r0 : bs.getD 0 false = true
  step : ∀ a b : Nat, Dn i j a b → b < (kid l a).length → bs.getD (k_ l a b).toNat false = (bs.getD a false && (!evB dep a || decide (k_ l a b = ch a)))
theorem RP.next {l : List Nd} {dep : List Int} {ch : Int → Int} {i j : Nat} {bs : List Bool} {x : Bool} (h : RP l dep ch i j bs) (hT : TF l dep) (hi : i < l.length) (hj : j < (kid l i).length) (hx : x = (bs.getD i false && (!evB dep i || decide (k_ l i j = ch i)))) : RP l dep ch i (j + 1) (bs.set (k_ l i j).toNat x) := by
  have hk := hT.kin i j hi hj
  have hl := h.len
  refine ⟨by simp [hl], by rw [bgetD_set_ne (by omega)]; exact h.r0, fun a b hd hb => ?_⟩
  have ha : a ≤ i := by unfold Dn at hd; omega
  rw [bgetD_set_ne (show (k_ l i j).toNat ≠ a by omega)]
  by_cases e : a = i ∧ b = j
  · obtain ⟨rfl, rfl⟩ := e
    rw [bgetD_set_eq (by omega), hx]
  · have hka := hT.kin a b (by omega) hb
    rw [bgetD_set_ne (fun e2 => e (by have := hT.inj i j a b hi hj (by omega) hb (by omega); omega))]
    exact h.step a b (by unfold Dn at *; omega) hb
theorem RP.row {l : List Nd} {dep : List Int} {ch : Int → Int} {i : Nat} {bs : List Bool} (h : RP l dep ch i (kid l i).length bs) : RP l dep ch (i + 1) 0 bs :=
  ⟨h.len, h.r0, fun a b hd hb => h.step a b (by unfold Dn at *; by_cases e : a = i; subst e; exact .inr ⟨rfl, hb⟩; omega) hb⟩
def fB (n : Nat) (bs : List Bool) (c : Int) : Bool := decide (0 ≤ c ∧ c < n) && bs.getD c.toNat false
theorem fB_at {n i : Nat} {bs : List Bool} (h : i < n) : fB n bs i = bs.getD i false := by
  unfold fB
  rw [decide_eq_true ⟨by omega, by omega⟩]
  simp
theorem RP.plan {l : List Nd} {dep : List Int} {ch : Int → Int} {bs : List Bool} {out : List Int} (h : RP l dep ch l.length 0 bs) (hT : TF l dep) (hol : out.length = l.length) (ho : ∀ j : Nat, j < l.length → out.getD j 0 = if bs.getD j false && evB dep j && !leafB l j then ch j else -1) : PlanS l dep ch (fB l.length bs) out := by
  have hn := hT.n1
  refine ⟨by rw [show (0 : Int) = ((0 : Nat) : Int) from rfl, fB_at (by omega)]; exact h.r0, fun a b ha hb => ?_, fun c hc => ?_, hol, fun j hj => by rw [fB_at hj]; exact ho j hj, fun j h1 h2 => by omega⟩
  · have hk := hT.kin a b ha hb
    rw [fB_at ha, ← h.step a b (.inl ha) hb]
    unfold fB
    rw [decide_eq_true ⟨by omega, by omega⟩]
    rfl
  · unfold fB at hc
    simp only [Bool.and_eq_true, decide_eq_true_eq] at hc
    by_cases e : c = 0
    · exact .inl e
    · obtain ⟨a, b, ha, hb, hk⟩ := hT.cov c.toNat (by omega) (by omega)
      exact .inr ⟨a, b, ha, hb, by omega⟩
set_option maxHeartbeats 4000000 in
theorem refPlan_c {w : World} {v : Value} {l : List Nd} {dep : List Int} (hTr : TreeM w v l) (hT : TF l dep) :
    Calls Try.prog 46 #[v] w (Ret fun r w' => ∃ vs f out, ValP l dep (wor l) vs ∧ PlanS l dep (chB l vs) f out ∧ OI 3 (Value.int .i64) w w' r out) := by
  obtain ⟨At, ct, rfl⟩ := hTr.sl
  have hn1 := hT.n1
  have hn60 := hT.n60
  refine calls_W (vs := [_]) Try.func46 rfl (by kernel_rfl) rfl ?_
  (repeat (first | with_reducible refine W.seq ?_ | with_reducible refine Ops.nil ?_ | with_reducible refine W.region ?_ | refine z_p (kk := ?_) | refine z_a (kk := ?_) | refine z_y (kk := ?_) | refine z_n (kk := ?_) | refine z_u (kk := ?_) | with_reducible refine W.skip ?_ | with_reducible refine W.endb ?_ | with_reducible refine W.block ?_ | refine W.exit rfl ?_ | refine z_l (kk := ?_) | refine z_f (kk := ?_) | refine z_M (kk := ?_) | refine z_m (kk := ?_) | refine z_e (kk := ?_) | refine z_E (kk := ?_) | refine z_d (kk := ?_) | refine z_I (kk := fun _ => ?_) | refine z_J (kk := fun _ => ?_) | refine z_K (kk := fun _ => ?_) | refine z_L (kk := fun _ => ?_) | refine z_T (kk := ?_) | refine z_F (kk := ?_) | refine z_k (kk := fun _ _ _ _ _ => ?_) | refine z_w (kk := fun _ _ => ?_) | refine z_s (kk := fun _ _ _ _ => ?_) | refine z_D (kk := ?_) | refine z_g (kk := ?_) | refine z_h (kk := ?_)))
  refine Ops.call rfl rfl rfl rfl rfl (refValues_c hTr hT) (fun r w1 hR => ?_)
  obtain ⟨vs, hI, hvs⟩ := hR
  have hb1 := hI.bel
  have hvl := hvs.len
  have hT1 := hTr.below hb1
  have hv1 : SlI w1 r vs := hI.sl
  obtain ⟨Av, cv, rfl⟩ := Sl.sl hv1
  (repeat (first | with_reducible refine W.seq ?_ | with_reducible refine Ops.nil ?_ | with_reducible refine W.region ?_ | refine z_p (kk := ?_) | refine z_a (kk := ?_) | refine z_y (kk := ?_) | refine z_n (kk := ?_) | refine z_u (kk := ?_) | with_reducible refine W.skip ?_ | with_reducible refine W.endb ?_ | with_reducible refine W.block ?_ | refine W.exit rfl ?_ | refine z_l (kk := ?_) | refine z_f (kk := ?_) | refine z_M (kk := ?_) | refine z_m (kk := ?_) | refine z_e (kk := ?_) | refine z_E (kk := ?_) | refine z_d (kk := ?_) | refine z_I (kk := fun _ => ?_) | refine z_J (kk := fun _ => ?_) | refine z_K (kk := fun _ => ?_) | refine z_L (kk := fun _ => ?_) | refine z_T (kk := ?_) | refine z_F (kk := ?_) | refine z_k (kk := fun _ _ _ _ _ => ?_) | refine z_w (kk := fun _ _ => ?_) | refine z_s (kk := fun _ _ _ _ => ?_) | refine z_D (kk := ?_) | refine z_g (kk := ?_) | refine z_h (kk := ?_)))
  refine Ops.call rfl rfl rfl rfl rfl (even_c hT1 hT) (fun r w2 hR => ?_)
  obtain ⟨es, hE, hel, hev⟩ := hR
  have hb2 := Below.via hb1 hE.bel
  have hT2 := hT1.below hE.bel
  have hv2 := Sl.below hv1 hE.bel
  have hE2 : SlB w2 r es := hE.sl
  obtain ⟨Ae, ce, rfl⟩ := Sl.sl hE2
  clear hT1 hv1 hE hI
  (repeat (first | with_reducible refine W.seq ?_ | with_reducible refine Ops.nil ?_ | with_reducible refine W.region ?_ | refine z_p (kk := ?_) | refine z_a (kk := ?_) | refine z_y (kk := ?_) | refine z_n (kk := ?_) | refine z_u (kk := ?_) | with_reducible refine W.skip ?_ | with_reducible refine W.endb ?_ | with_reducible refine W.block ?_ | refine W.exit rfl ?_ | refine z_l (kk := ?_) | refine z_f (kk := ?_) | refine z_M (kk := ?_) | refine z_m (kk := ?_) | refine z_e (kk := ?_) | refine z_E (kk := ?_) | refine z_d (kk := ?_) | refine z_I (kk := fun _ => ?_) | refine z_J (kk := fun _ => ?_) | refine z_K (kk := fun _ => ?_) | refine z_L (kk := fun _ => ?_) | refine z_T (kk := ?_) | refine z_F (kk := ?_) | refine z_k (kk := fun _ _ _ _ _ => ?_) | refine z_w (kk := fun _ _ => ?_) | refine z_s (kk := fun _ _ _ _ => ?_) | refine z_D (kk := ?_) | refine z_g (kk := ?_) | refine z_h (kk := ?_)))
  refine Ops.mkO (w0 := w2) Value.bool false rfl rfl rfl rfl rfl rfl rfl rfl rfl (by omega) rfl (Below.refl _ _) (fun w3 dr hO3 k3 _ => ?_)
  have hlr : (List.replicate l.length false).length = l.length := by simp
  generalize List.replicate l.length false = os3 at *
  (repeat (first | with_reducible refine W.seq ?_ | with_reducible refine Ops.nil ?_ | with_reducible refine W.region ?_ | refine z_p (kk := ?_) | refine z_a (kk := ?_) | refine z_y (kk := ?_) | refine z_n (kk := ?_) | refine z_u (kk := ?_) | with_reducible refine W.skip ?_ | with_reducible refine W.endb ?_ | with_reducible refine W.block ?_ | refine W.exit rfl ?_ | refine z_l (kk := ?_) | refine z_f (kk := ?_) | refine z_M (kk := ?_) | refine z_m (kk := ?_) | refine z_e (kk := ?_) | refine z_E (kk := ?_) | refine z_d (kk := ?_) | refine z_I (kk := fun _ => ?_) | refine z_J (kk := fun _ => ?_) | refine z_K (kk := fun _ => ?_) | refine z_L (kk := fun _ => ?_) | refine z_T (kk := ?_) | refine z_F (kk := ?_) | refine z_k (kk := fun _ _ _ _ _ => ?_) | refine z_w (kk := fun _ _ => ?_) | refine z_s (kk := fun _ _ _ _ => ?_) | refine z_D (kk := ?_) | refine z_g (kk := ?_) | refine z_h (kk := ?_)))
  refine Ops.wrO (i := 0) (enc := Value.bool) rfl rfl rfl rfl rfl rfl rfl rfl rfl rfl rfl rfl (by simp) rfl hO3 (by omega) (fun w4 _ hO4 k4 _ => ?_)
  have hP4 : RP l dep (chB l vs) 0 0 (os3.set 0 true) := ⟨by simp [hlr], bgetD_set_eq (by omega), fun a b hd => by unfold Dn at hd; omega⟩
  generalize os3.set 0 true = os4 at *
  clear hO3
  (repeat (first | with_reducible refine W.seq ?_ | with_reducible refine Ops.nil ?_ | with_reducible refine W.region ?_ | refine z_p (kk := ?_) | refine z_a (kk := ?_) | refine z_y (kk := ?_) | refine z_n (kk := ?_) | refine z_u (kk := ?_) | with_reducible refine W.skip ?_ | with_reducible refine W.endb ?_ | with_reducible refine W.block ?_ | refine W.exit rfl ?_ | refine z_l (kk := ?_) | refine z_f (kk := ?_) | refine z_M (kk := ?_) | refine z_m (kk := ?_) | refine z_e (kk := ?_) | refine z_E (kk := ?_) | refine z_d (kk := ?_) | refine z_I (kk := fun _ => ?_) | refine z_J (kk := fun _ => ?_) | refine z_K (kk := fun _ => ?_) | refine z_L (kk := fun _ => ?_) | refine z_T (kk := ?_) | refine z_F (kk := ?_) | refine z_k (kk := fun _ _ _ _ _ => ?_) | refine z_w (kk := fun _ _ => ?_) | refine z_s (kk := fun _ _ _ _ => ?_) | refine z_D (kk := ?_) | refine z_g (kk := ?_) | refine z_h (kk := ?_)))
  refine W.loop (fun m ρ w5 => ∃ (i : Nat) (ov : Value) (out : List Int) (bs : List Bool), m = l.length - i ∧ i ≤ l.length ∧ ρ = [(0, .slice At l.length ct), (3, .slice Av vs.length cv), (4, .slice Ae es.length ce), (5, .slice (some ⟨dr, 0, none⟩) l.length l.length), (6, ov), (7, .int .i64 i)] ∧ OI 3 (Value.int .i64) w2 w5 ov out ∧ OI 4 Value.bool w2 w5 (.slice (some ⟨dr, 0, none⟩) l.length l.length) bs ∧ ov.ownBlock ≠ some dr ∧ RP l dep (chB l vs) i 0 bs ∧ out.length = i ∧ ∀ j : Nat, j < i → out.getD j 0 = if bs.getD j false && evB dep j && !leafB l j then chB l vs j else -1)
    ⟨_, _, ⟨0, _, _, _, rfl, Nat.zero_le _, rfl, OI.nil hO4.bel, hO4, by simp [Value.ownBlock], hP4, rfl, fun j hj => by omega⟩, (by repeat (first | exact trivial | refine And.intro rfl ?_))⟩ ?_
  clear hO4 hP4
  rintro m ρ w5 ⟨i, ov, out, bs, rfl, hi, rfl, hO, hB, hne, hP, hol, ho⟩
  have hb5 := hO.bel
  have hbl := hP.len
  (repeat (first | with_reducible refine W.seq ?_ | with_reducible refine Ops.nil ?_ | with_reducible refine W.region ?_ | refine z_p (kk := ?_) | refine z_a (kk := ?_) | refine z_y (kk := ?_) | refine z_n (kk := ?_) | refine z_u (kk := ?_) | with_reducible refine W.skip ?_ | with_reducible refine W.endb ?_ | with_reducible refine W.block ?_ | refine W.exit rfl ?_ | refine z_l (kk := ?_) | refine z_f (kk := ?_) | refine z_M (kk := ?_) | refine z_m (kk := ?_) | refine z_e (kk := ?_) | refine z_E (kk := ?_) | refine z_d (kk := ?_) | refine z_I (kk := fun _ => ?_) | refine z_J (kk := fun _ => ?_) | refine z_K (kk := fun _ => ?_) | refine z_L (kk := fun _ => ?_) | refine z_T (kk := ?_) | refine z_F (kk := ?_) | refine z_k (kk := fun _ _ _ _ _ => ?_) | refine z_w (kk := fun _ _ => ?_) | refine z_s (kk := fun _ _ _ _ => ?_) | refine z_D (kk := ?_) | refine z_g (kk := ?_) | refine z_h (kk := ?_)))
  (first | refine W.condD rfl (fun hc => ?_) (fun hc => ?_) | refine W.condE rfl (fun hc => ?_) (fun hc => ?_) | refine W.condN rfl (fun hc => ?_) (fun hc => ?_) | refine W.cond rfl (fun hc => ?_) (fun hc => ?_))
  · have hil : i < l.length := by omega
    have hevi := hev i hil
    have hkl := hT.klen i hil
    have hlfk : leafB l i = decide ((kid l i).length = 0) := by unfold leafB; cases kid l i <;> simp
    (repeat (first | with_reducible refine W.seq ?_ | with_reducible refine Ops.nil ?_ | with_reducible refine W.region ?_ | refine z_p (kk := ?_) | refine z_a (kk := ?_) | refine z_y (kk := ?_) | refine z_n (kk := ?_) | refine z_u (kk := ?_) | with_reducible refine W.skip ?_ | with_reducible refine W.endb ?_ | with_reducible refine W.block ?_ | refine W.exit rfl ?_ | refine z_l (kk := ?_) | refine z_f (kk := ?_) | refine z_M (kk := ?_) | refine z_m (kk := ?_) | refine z_e (kk := ?_) | refine z_E (kk := ?_) | refine z_d (kk := ?_) | refine z_I (kk := fun _ => ?_) | refine z_J (kk := fun _ => ?_) | refine z_K (kk := fun _ => ?_) | refine z_L (kk := fun _ => ?_) | refine z_T (kk := ?_) | refine z_F (kk := ?_) | refine z_k (kk := fun _ _ _ _ _ => ?_) | refine z_w (kk := fun _ _ => ?_) | refine z_s (kk := fun _ _ _ _ => ?_) | refine z_D (kk := ?_) | refine z_g (kk := ?_) | refine z_h (kk := ?_)))
    refine Ops.cut (fun ρ w' => ∃ b : Bool, b = (bs.getD i false && evB dep i && !leafB l i) ∧ ρ = [(0, .slice At l.length ct), (3, .slice Av vs.length cv), (4, .slice Ae es.length ce), (5, .slice (some ⟨dr, 0, none⟩) l.length l.length), (6, ov), (7, .int .i64 i), (8, .int .i64 (-1)), (43, .bool b)] ∧ Below w5.heap.size w5 w') ?_ ?_
    · cases hbi : bs.getD i false with
      | false =>
        (repeat (first | with_reducible refine W.seq ?_ | with_reducible refine Ops.nil ?_ | with_reducible refine W.region ?_ | refine z_p (kk := ?_) | refine z_a (kk := ?_) | refine z_y (kk := ?_) | refine z_n (kk := ?_) | refine z_u (kk := ?_) | with_reducible refine W.skip ?_ | with_reducible refine W.endb ?_ | with_reducible refine W.block ?_ | refine W.exit rfl ?_ | refine z_l (kk := ?_) | refine z_f (kk := ?_) | refine z_M (kk := ?_) | refine z_m (kk := ?_) | refine z_e (kk := ?_) | refine z_E (kk := ?_) | refine z_d (kk := ?_) | refine z_I (kk := fun _ => ?_) | refine z_J (kk := fun _ => ?_) | refine z_K (kk := fun _ => ?_) | refine z_L (kk := fun _ => ?_) | refine z_T (kk := ?_) | refine z_F (kk := ?_) | refine z_k (kk := fun _ _ _ _ _ => ?_) | refine z_w (kk := fun _ _ => ?_) | refine z_s (kk := fun _ _ _ _ => ?_) | refine z_D (kk := ?_) | refine z_g (kk := ?_) | refine z_h (kk := ?_)))
        refine W.endl ⟨_, ⟨_, ?_, rfl, Below.refl _ _⟩, (by repeat (first | exact trivial | refine And.intro rfl ?_))⟩
        simp
      | true =>
        cases hei : evB dep i with
        | false =>
          have hevi2 : es.getD i false = false := by rw [hevi, hei]
          (repeat (first | with_reducible refine W.seq ?_ | with_reducible refine Ops.nil ?_ | with_reducible refine W.region ?_ | refine z_p (kk := ?_) | refine z_a (kk := ?_) | refine z_y (kk := ?_) | refine z_n (kk := ?_) | refine z_u (kk := ?_) | with_reducible refine W.skip ?_ | with_reducible refine W.endb ?_ | with_reducible refine W.block ?_ | refine W.exit rfl ?_ | refine z_l (kk := ?_) | refine z_f (kk := ?_) | refine z_M (kk := ?_) | refine z_m (kk := ?_) | refine z_e (kk := ?_) | refine z_E (kk := ?_) | refine z_d (kk := ?_) | refine z_I (kk := fun _ => ?_) | refine z_J (kk := fun _ => ?_) | refine z_K (kk := fun _ => ?_) | refine z_L (kk := fun _ => ?_) | refine z_T (kk := ?_) | refine z_F (kk := ?_) | refine z_k (kk := fun _ _ _ _ _ => ?_) | refine z_w (kk := fun _ _ => ?_) | refine z_s (kk := fun _ _ _ _ => ?_) | refine z_D (kk := ?_) | refine z_g (kk := ?_) | refine z_h (kk := ?_)))
          refine W.endl ⟨_, ⟨_, ?_, rfl, Below.refl _ _⟩, (by repeat (first | exact trivial | refine And.intro rfl ?_))⟩
          simp
        | true =>
          have hevi2 : es.getD i false = true := by rw [hevi, hei]
          (repeat (first | with_reducible refine W.seq ?_ | with_reducible refine Ops.nil ?_ | with_reducible refine W.region ?_ | refine z_p (kk := ?_) | refine z_a (kk := ?_) | refine z_y (kk := ?_) | refine z_n (kk := ?_) | refine z_u (kk := ?_) | with_reducible refine W.skip ?_ | with_reducible refine W.endb ?_ | with_reducible refine W.block ?_ | refine W.exit rfl ?_ | refine z_l (kk := ?_) | refine z_f (kk := ?_) | refine z_M (kk := ?_) | refine z_m (kk := ?_) | refine z_e (kk := ?_) | refine z_E (kk := ?_) | refine z_d (kk := ?_) | refine z_I (kk := fun _ => ?_) | refine z_J (kk := fun _ => ?_) | refine z_K (kk := fun _ => ?_) | refine z_L (kk := fun _ => ?_) | refine z_T (kk := ?_) | refine z_F (kk := ?_) | refine z_k (kk := fun _ _ _ _ _ => ?_) | refine z_w (kk := fun _ _ => ?_) | refine z_s (kk := fun _ _ _ _ => ?_) | refine z_D (kk := ?_) | refine z_g (kk := ?_) | refine z_h (kk := ?_)))
          refine Ops.call rfl rfl rfl rfl rfl (leaf_c (Sl.below (by assumption) hb5) rfl) (fun r w6 hR => ?_)
          obtain ⟨rfl, hb6⟩ := hR
          cases hlf : leafB l i with
          | true =>
            have hk0 : (kid l i).length = 0 := of_decide_eq_true (by rw [← hlfk]; exact hlf)
            (repeat (first | with_reducible refine W.seq ?_ | with_reducible refine Ops.nil ?_ | with_reducible refine W.region ?_ | refine z_p (kk := ?_) | refine z_a (kk := ?_) | refine z_y (kk := ?_) | refine z_n (kk := ?_) | refine z_u (kk := ?_) | with_reducible refine W.skip ?_ | with_reducible refine W.endb ?_ | with_reducible refine W.block ?_ | refine W.exit rfl ?_ | refine z_l (kk := ?_) | refine z_f (kk := ?_) | refine z_M (kk := ?_) | refine z_m (kk := ?_) | refine z_e (kk := ?_) | refine z_E (kk := ?_) | refine z_d (kk := ?_) | refine z_I (kk := fun _ => ?_) | refine z_J (kk := fun _ => ?_) | refine z_K (kk := fun _ => ?_) | refine z_L (kk := fun _ => ?_) | refine z_T (kk := ?_) | refine z_F (kk := ?_) | refine z_k (kk := fun _ _ _ _ _ => ?_) | refine z_w (kk := fun _ _ => ?_) | refine z_s (kk := fun _ _ _ _ => ?_) | refine z_D (kk := ?_) | refine z_g (kk := ?_) | refine z_h (kk := ?_)))
            refine W.endl ⟨_, ⟨_, ?_, rfl, hb6⟩, (by repeat (first | exact trivial | refine And.intro rfl ?_))⟩
            simp [hk0]
          | false =>
            have hk0 : ¬ (kid l i).length = 0 := of_decide_eq_false (by rw [← hlfk]; exact hlf)
            (repeat (first | with_reducible refine W.seq ?_ | with_reducible refine Ops.nil ?_ | with_reducible refine W.region ?_ | refine z_p (kk := ?_) | refine z_a (kk := ?_) | refine z_y (kk := ?_) | refine z_n (kk := ?_) | refine z_u (kk := ?_) | with_reducible refine W.skip ?_ | with_reducible refine W.endb ?_ | with_reducible refine W.block ?_ | refine W.exit rfl ?_ | refine z_l (kk := ?_) | refine z_f (kk := ?_) | refine z_M (kk := ?_) | refine z_m (kk := ?_) | refine z_e (kk := ?_) | refine z_E (kk := ?_) | refine z_d (kk := ?_) | refine z_I (kk := fun _ => ?_) | refine z_J (kk := fun _ => ?_) | refine z_K (kk := fun _ => ?_) | refine z_L (kk := fun _ => ?_) | refine z_T (kk := ?_) | refine z_F (kk := ?_) | refine z_k (kk := fun _ _ _ _ _ => ?_) | refine z_w (kk := fun _ _ => ?_) | refine z_s (kk := fun _ _ _ _ => ?_) | refine z_D (kk := ?_) | refine z_g (kk := ?_) | refine z_h (kk := ?_)))
            refine W.endl ⟨_, ⟨_, ?_, rfl, hb6⟩, (by repeat (first | exact trivial | refine And.intro rfl ?_))⟩
            simp [hk0]
    rintro ρ w6 ⟨b, hbe, rfl, hb6⟩
    subst hbe
    have hO6 := hO.below hb6
    have hB6 := hB.below hb6
    have hb26 := hO6.bel
    refine W.cut (fun ρ w' => ρ = [(0, .slice At l.length ct), (3, .slice Av vs.length cv), (4, .slice Ae es.length ce), (5, .slice (some ⟨dr, 0, none⟩) l.length l.length), (6, ov), (7, .int .i64 i), (8, .int .i64 (if bs.getD i false && evB dep i && !leafB l i then chB l vs i else -1))] ∧ Below w6.heap.size w6 w') ?_ ?_
    · cases hgo : (bs.getD i false && evB dep i && !leafB l i) with
      | false =>
        refine W.condF rfl (by first | rfl | assumption | (simp only [bnf] <;> omega) | (simp only [*, bnf]; done) | fail) ?_
        (repeat (first | with_reducible refine W.seq ?_ | with_reducible refine Ops.nil ?_ | with_reducible refine W.region ?_ | refine z_p (kk := ?_) | refine z_a (kk := ?_) | refine z_y (kk := ?_) | refine z_n (kk := ?_) | refine z_u (kk := ?_) | with_reducible refine W.skip ?_ | with_reducible refine W.endb ?_ | with_reducible refine W.block ?_ | refine W.exit rfl ?_ | refine z_l (kk := ?_) | refine z_f (kk := ?_) | refine z_M (kk := ?_) | refine z_m (kk := ?_) | refine z_e (kk := ?_) | refine z_E (kk := ?_) | refine z_d (kk := ?_) | refine z_I (kk := fun _ => ?_) | refine z_J (kk := fun _ => ?_) | refine z_K (kk := fun _ => ?_) | refine z_L (kk := fun _ => ?_) | refine z_T (kk := ?_) | refine z_F (kk := ?_) | refine z_k (kk := fun _ _ _ _ _ => ?_) | refine z_w (kk := fun _ _ => ?_) | refine z_s (kk := fun _ _ _ _ => ?_) | refine z_D (kk := ?_) | refine z_g (kk := ?_) | refine z_h (kk := ?_)))
        exact W.endl ⟨_, ⟨rfl, Below.refl _ _⟩, (by repeat (first | exact trivial | refine And.intro rfl ?_))⟩
      | true =>
        have hlf : leafB l i = false := by
          simp only [Bool.and_eq_true, Bool.not_eq_true'] at hgo
          exact hgo.2
        refine W.condT rfl (by first | rfl | assumption | (simp only [bnf] <;> omega) | (simp only [*, bnf]; done) | fail) ?_
        (repeat (first | with_reducible refine W.seq ?_ | with_reducible refine Ops.nil ?_ | with_reducible refine W.region ?_ | refine z_p (kk := ?_) | refine z_a (kk := ?_) | refine z_y (kk := ?_) | refine z_n (kk := ?_) | refine z_u (kk := ?_) | with_reducible refine W.skip ?_ | with_reducible refine W.endb ?_ | with_reducible refine W.block ?_ | refine W.exit rfl ?_ | refine z_l (kk := ?_) | refine z_f (kk := ?_) | refine z_M (kk := ?_) | refine z_m (kk := ?_) | refine z_e (kk := ?_) | refine z_E (kk := ?_) | refine z_d (kk := ?_) | refine z_I (kk := fun _ => ?_) | refine z_J (kk := fun _ => ?_) | refine z_K (kk := fun _ => ?_) | refine z_L (kk := fun _ => ?_) | refine z_T (kk := ?_) | refine z_F (kk := ?_) | refine z_k (kk := fun _ _ _ _ _ => ?_) | refine z_w (kk := fun _ _ => ?_) | refine z_s (kk := fun _ _ _ _ => ?_) | refine z_D (kk := ?_) | refine z_g (kk := ?_) | refine z_h (kk := ?_)))
        refine Ops.call rfl rfl rfl rfl rfl (refFirst_c (hT2.below hb26) hT (Sl.below hv2 hb26) hvl hil (Go.Proofs.Ytdiljpnfochndaa.HP.val_att hvs hil hlf)) (fun r w7 hR => ?_)
        obtain ⟨rfl, hb7⟩ := hR
        (repeat (first | with_reducible refine W.seq ?_ | with_reducible refine Ops.nil ?_ | with_reducible refine W.region ?_ | refine z_p (kk := ?_) | refine z_a (kk := ?_) | refine z_y (kk := ?_) | refine z_n (kk := ?_) | refine z_u (kk := ?_) | with_reducible refine W.skip ?_ | with_reducible refine W.endb ?_ | with_reducible refine W.block ?_ | refine W.exit rfl ?_ | refine z_l (kk := ?_) | refine z_f (kk := ?_) | refine z_M (kk := ?_) | refine z_m (kk := ?_) | refine z_e (kk := ?_) | refine z_E (kk := ?_) | refine z_d (kk := ?_) | refine z_I (kk := fun _ => ?_) | refine z_J (kk := fun _ => ?_) | refine z_K (kk := fun _ => ?_) | refine z_L (kk := fun _ => ?_) | refine z_T (kk := ?_) | refine z_F (kk := ?_) | refine z_k (kk := fun _ _ _ _ _ => ?_) | refine z_w (kk := fun _ _ => ?_) | refine z_s (kk := fun _ _ _ _ => ?_) | refine z_D (kk := ?_) | refine z_g (kk := ?_) | refine z_h (kk := ?_)))
        exact W.endl ⟨_, ⟨rfl, hb7⟩, (by repeat (first | exact trivial | refine And.intro rfl ?_))⟩
    generalize hnx : (if bs.getD i false && evB dep i && !leafB l i then chB l vs i else -1) = nx at *
    rintro ρ w7 ⟨rfl, hb7⟩
    have hO7 := hO6.below hb7
    have hB7 := hB6.below hb7
    clear hO hB hO6 hB6 hb26 hb6 hb7
    (repeat (first | with_reducible refine W.seq ?_ | with_reducible refine Ops.nil ?_ | with_reducible refine W.region ?_ | refine z_p (kk := ?_) | refine z_a (kk := ?_) | refine z_y (kk := ?_) | refine z_n (kk := ?_) | refine z_u (kk := ?_) | with_reducible refine W.skip ?_ | with_reducible refine W.endb ?_ | with_reducible refine W.block ?_ | refine W.exit rfl ?_ | refine z_l (kk := ?_) | refine z_f (kk := ?_) | refine z_M (kk := ?_) | refine z_m (kk := ?_) | refine z_e (kk := ?_) | refine z_E (kk := ?_) | refine z_d (kk := ?_) | refine z_I (kk := fun _ => ?_) | refine z_J (kk := fun _ => ?_) | refine z_K (kk := fun _ => ?_) | refine z_L (kk := fun _ => ?_) | refine z_T (kk := ?_) | refine z_F (kk := ?_) | refine z_k (kk := fun _ _ _ _ _ => ?_) | refine z_w (kk := fun _ _ => ?_) | refine z_s (kk := fun _ _ _ _ => ?_) | refine z_D (kk := ?_) | refine z_g (kk := ?_) | refine z_h (kk := ?_)))
    refine Ops.pushO (enc := Value.int .i64) rfl rfl rfl rfl rfl rfl rfl rfl rfl rfl rfl rfl (fun _ => rfl) rfl hO7 (by omega) (fun lv' _ w8 hO8 k8 hn8 => ?_)
    have hB8 := hB7.kp k8 (fun q hq => ⟨hO7.ge q hq, fun e => by simp [Value.ownBlock] at e; exact hne (by rw [hq, e])⟩)
    have hne8 : lv'.ownBlock ≠ some dr := fun e => by
      rcases hn8 dr e with h | h
      · exact hne h
      · have := (hB7.own.lt dr rfl).2; omega
    have ho8 : ∀ j : Nat, j < i + 1 → (out ++ [nx]).getD j 0 = if bs.getD j false && evB dep j && !leafB l j then chB l vs j else -1 := fun j hj => by
      by_cases e : j = i
      · subst e; rw [app_last hol.symm, hnx]
      · rw [app_getD (by omega)]; exact ho j (by omega)
    clear hO7 hB7
    (repeat (first | with_reducible refine W.seq ?_ | with_reducible refine Ops.nil ?_ | with_reducible refine W.region ?_ | refine z_p (kk := ?_) | refine z_a (kk := ?_) | refine z_y (kk := ?_) | refine z_n (kk := ?_) | refine z_u (kk := ?_) | with_reducible refine W.skip ?_ | with_reducible refine W.endb ?_ | with_reducible refine W.block ?_ | refine W.exit rfl ?_ | refine z_l (kk := ?_) | refine z_f (kk := ?_) | refine z_M (kk := ?_) | refine z_m (kk := ?_) | refine z_e (kk := ?_) | refine z_E (kk := ?_) | refine z_d (kk := ?_) | refine z_I (kk := fun _ => ?_) | refine z_J (kk := fun _ => ?_) | refine z_K (kk := fun _ => ?_) | refine z_L (kk := fun _ => ?_) | refine z_T (kk := ?_) | refine z_F (kk := ?_) | refine z_k (kk := fun _ _ _ _ _ => ?_) | refine z_w (kk := fun _ _ => ?_) | refine z_s (kk := fun _ _ _ _ => ?_) | refine z_D (kk := ?_) | refine z_g (kk := ?_) | refine z_h (kk := ?_)))
    refine W.loop (fun m ρ w9 => ∃ (j : Nat) (cs : List Bool), m = (kid l i).length - j ∧ j ≤ (kid l i).length ∧ ρ = [(0, .slice At l.length ct), (3, .slice Av vs.length cv), (4, .slice Ae es.length ce), (5, .slice (some ⟨dr, 0, none⟩) l.length l.length), (6, lv'), (7, .int .i64 i), (8, .int .i64 nx), (9, .int .i64 j)] ∧ OI 3 (Value.int .i64) w2 w9 lv' (out ++ [nx]) ∧ OI 4 Value.bool w2 w9 (.slice (some ⟨dr, 0, none⟩) l.length l.length) cs ∧ RP l dep (chB l vs) i j cs ∧ ∀ q : Nat, q ≤ i → cs.getD q false = bs.getD q false)
      ⟨_, _, ⟨0, bs, rfl, Nat.zero_le _, rfl, hO8, hB8, hP, fun q _ => rfl⟩, (by repeat (first | exact trivial | refine And.intro rfl ?_))⟩ ?_
    clear hO8 hB8
    rintro m ρ w9 ⟨j, cs, rfl, hj, rfl, hO9, hB9, hP9, hsame⟩
    have hb9 := hO9.bel
    have hcl := hP9.len
    (repeat (first | with_reducible refine W.seq ?_ | with_reducible refine Ops.nil ?_ | with_reducible refine W.region ?_ | refine z_p (kk := ?_) | refine z_a (kk := ?_) | refine z_y (kk := ?_) | refine z_n (kk := ?_) | refine z_u (kk := ?_) | with_reducible refine W.skip ?_ | with_reducible refine W.endb ?_ | with_reducible refine W.block ?_ | refine W.exit rfl ?_ | refine z_l (kk := ?_) | refine z_f (kk := ?_) | refine z_M (kk := ?_) | refine z_m (kk := ?_) | refine z_e (kk := ?_) | refine z_E (kk := ?_) | refine z_d (kk := ?_) | refine z_I (kk := fun _ => ?_) | refine z_J (kk := fun _ => ?_) | refine z_K (kk := fun _ => ?_) | refine z_L (kk := fun _ => ?_) | refine z_T (kk := ?_) | refine z_F (kk := ?_) | refine z_k (kk := fun _ _ _ _ _ => ?_) | refine z_w (kk := fun _ _ => ?_) | refine z_s (kk := fun _ _ _ _ => ?_) | refine z_D (kk := ?_) | refine z_g (kk := ?_) | refine z_h (kk := ?_)))
    (first | refine W.condD rfl (fun hc => ?_) (fun hc => ?_) | refine W.condE rfl (fun hc => ?_) (fun hc => ?_) | refine W.condN rfl (fun hc => ?_) (fun hc => ?_) | refine W.cond rfl (fun hc => ?_) (fun hc => ?_))
    · have hjl : j < (kid l i).length := by omega
      have hkin := hT.kin i j hil hjl
      have hkn : (i : Int) < (kid l i).getD j 0 := hkin.1
      have hci := hsame i (Nat.le_refl _)
      have hlf : leafB l i = false := by rw [hlfk]; exact decide_eq_false (by omega)
      have hst : ∀ x, x = (cs.getD i false && (!evB dep i || decide (k_ l i j = chB l vs i))) → RP l dep (chB l vs) i (j + 1) (cs.set ((kid l i).getD j 0).toNat x) ∧ ∀ q : Nat, q ≤ i → (cs.set ((kid l i).getD j 0).toNat x).getD q false = bs.getD q false := fun x hx =>
        ⟨hP9.next hT hil hjl hx, fun q hq => by rw [bgetD_set_ne (by omega)]; exact hsame q hq⟩
      simp only [k_] at hkin hst
      (repeat (first | with_reducible refine W.seq ?_ | with_reducible refine Ops.nil ?_ | with_reducible refine W.region ?_ | refine z_p (kk := ?_) | refine z_a (kk := ?_) | refine z_y (kk := ?_) | refine z_n (kk := ?_) | refine z_u (kk := ?_) | with_reducible refine W.skip ?_ | with_reducible refine W.endb ?_ | with_reducible refine W.block ?_ | refine W.exit rfl ?_ | refine z_l (kk := ?_) | refine z_f (kk := ?_) | refine z_M (kk := ?_) | refine z_m (kk := ?_) | refine z_e (kk := ?_) | refine z_E (kk := ?_) | refine z_d (kk := ?_) | refine z_I (kk := fun _ => ?_) | refine z_J (kk := fun _ => ?_) | refine z_K (kk := fun _ => ?_) | refine z_L (kk := fun _ => ?_) | refine z_T (kk := ?_) | refine z_F (kk := ?_) | refine z_k (kk := fun _ _ _ _ _ => ?_) | refine z_w (kk := fun _ _ => ?_) | refine z_s (kk := fun _ _ _ _ => ?_) | refine z_D (kk := ?_) | refine z_g (kk := ?_) | refine z_h (kk := ?_)))
      have hfin : ∀ (b : Bool) (w' : World), b = (cs.getD i false && (!evB dep i || decide ((kid l i).getD j 0 = chB l vs i))) → OI 4 Value.bool w2 w' (.slice (some ⟨dr, 0, none⟩) l.length l.length) (cs.set ((kid l i).getD j 0).toNat b) → Kp (fun k => (Value.slice (some ⟨dr, 0, none⟩) l.length l.length).ownBlock = some k) w9 w' →
          OI 3 (Value.int .i64) w2 w' lv' (out ++ [nx]) := fun b w' _ hB' k' => hO9.kp k' (fun q hq => ⟨hB9.ge q hq, fun e => by simp [Value.ownBlock] at hq; exact hne8 (by rw [e, hq])⟩)
      cases hbi : cs.getD i false with
      | false =>
        (repeat (first | with_reducible refine W.seq ?_ | with_reducible refine Ops.nil ?_ | with_reducible refine W.region ?_ | refine z_p (kk := ?_) | refine z_a (kk := ?_) | refine z_y (kk := ?_) | refine z_n (kk := ?_) | refine z_u (kk := ?_) | with_reducible refine W.skip ?_ | with_reducible refine W.endb ?_ | with_reducible refine W.block ?_ | refine W.exit rfl ?_ | refine z_l (kk := ?_) | refine z_f (kk := ?_) | refine z_M (kk := ?_) | refine z_m (kk := ?_) | refine z_e (kk := ?_) | refine z_E (kk := ?_) | refine z_d (kk := ?_) | refine z_I (kk := fun _ => ?_) | refine z_J (kk := fun _ => ?_) | refine z_K (kk := fun _ => ?_) | refine z_L (kk := fun _ => ?_) | refine z_T (kk := ?_) | refine z_F (kk := ?_) | refine z_k (kk := fun _ _ _ _ _ => ?_) | refine z_w (kk := fun _ _ => ?_) | refine z_s (kk := fun _ _ _ _ => ?_) | refine z_D (kk := ?_) | refine z_g (kk := ?_) | refine z_h (kk := ?_)))
        refine Ops.wrOi (u := false) (enc := Value.bool) rfl rfl rfl rfl rfl rfl rfl rfl rfl rfl rfl rfl (by simp) rfl hB9 (by omega) (by omega) (fun wa _ hBa ka _ => ?_)
        have hOa := hfin false wa (by rw [hbi]; rfl) hBa ka
        obtain ⟨hs1, hs2⟩ := hst false (by rw [hbi]; rfl)
        (repeat (first | with_reducible refine W.seq ?_ | with_reducible refine Ops.nil ?_ | with_reducible refine W.region ?_ | refine z_p (kk := ?_) | refine z_a (kk := ?_) | refine z_y (kk := ?_) | refine z_n (kk := ?_) | refine z_u (kk := ?_) | with_reducible refine W.skip ?_ | with_reducible refine W.endb ?_ | with_reducible refine W.block ?_ | refine W.exit rfl ?_ | refine z_l (kk := ?_) | refine z_f (kk := ?_) | refine z_M (kk := ?_) | refine z_m (kk := ?_) | refine z_e (kk := ?_) | refine z_E (kk := ?_) | refine z_d (kk := ?_) | refine z_I (kk := fun _ => ?_) | refine z_J (kk := fun _ => ?_) | refine z_K (kk := fun _ => ?_) | refine z_L (kk := fun _ => ?_) | refine z_T (kk := ?_) | refine z_F (kk := ?_) | refine z_k (kk := fun _ _ _ _ _ => ?_) | refine z_w (kk := fun _ _ => ?_) | refine z_s (kk := fun _ _ _ _ => ?_) | refine z_D (kk := ?_) | refine z_g (kk := ?_) | refine z_h (kk := ?_)))
        exact W.endl ⟨_, _, ⟨⟨j + 1, _, rfl, by omega, rfl, hOa, hBa, hs1, hs2⟩, by omega⟩, (by repeat (first | exact trivial | refine And.intro rfl ?_))⟩
      | true =>
        cases hei : evB dep i with
        | false =>
          have hevi2 : es.getD i false = false := by rw [hevi, hei]
          (repeat (first | with_reducible refine W.seq ?_ | with_reducible refine Ops.nil ?_ | with_reducible refine W.region ?_ | refine z_p (kk := ?_) | refine z_a (kk := ?_) | refine z_y (kk := ?_) | refine z_n (kk := ?_) | refine z_u (kk := ?_) | with_reducible refine W.skip ?_ | with_reducible refine W.endb ?_ | with_reducible refine W.block ?_ | refine W.exit rfl ?_ | refine z_l (kk := ?_) | refine z_f (kk := ?_) | refine z_M (kk := ?_) | refine z_m (kk := ?_) | refine z_e (kk := ?_) | refine z_E (kk := ?_) | refine z_d (kk := ?_) | refine z_I (kk := fun _ => ?_) | refine z_J (kk := fun _ => ?_) | refine z_K (kk := fun _ => ?_) | refine z_L (kk := fun _ => ?_) | refine z_T (kk := ?_) | refine z_F (kk := ?_) | refine z_k (kk := fun _ _ _ _ _ => ?_) | refine z_w (kk := fun _ _ => ?_) | refine z_s (kk := fun _ _ _ _ => ?_) | refine z_D (kk := ?_) | refine z_g (kk := ?_) | refine z_h (kk := ?_)))
          refine Ops.wrOi (u := true) (enc := Value.bool) rfl rfl rfl rfl rfl rfl rfl rfl rfl rfl rfl rfl (by simp) rfl hB9 (by omega) (by omega) (fun wa _ hBa ka _ => ?_)
          have hOa := hfin true wa (by rw [hbi, hei]; rfl) hBa ka
          obtain ⟨hs1, hs2⟩ := hst true (by rw [hbi, hei]; rfl)
          (repeat (first | with_reducible refine W.seq ?_ | with_reducible refine Ops.nil ?_ | with_reducible refine W.region ?_ | refine z_p (kk := ?_) | refine z_a (kk := ?_) | refine z_y (kk := ?_) | refine z_n (kk := ?_) | refine z_u (kk := ?_) | with_reducible refine W.skip ?_ | with_reducible refine W.endb ?_ | with_reducible refine W.block ?_ | refine W.exit rfl ?_ | refine z_l (kk := ?_) | refine z_f (kk := ?_) | refine z_M (kk := ?_) | refine z_m (kk := ?_) | refine z_e (kk := ?_) | refine z_E (kk := ?_) | refine z_d (kk := ?_) | refine z_I (kk := fun _ => ?_) | refine z_J (kk := fun _ => ?_) | refine z_K (kk := fun _ => ?_) | refine z_L (kk := fun _ => ?_) | refine z_T (kk := ?_) | refine z_F (kk := ?_) | refine z_k (kk := fun _ _ _ _ _ => ?_) | refine z_w (kk := fun _ _ => ?_) | refine z_s (kk := fun _ _ _ _ => ?_) | refine z_D (kk := ?_) | refine z_g (kk := ?_) | refine z_h (kk := ?_)))
          exact W.endl ⟨_, _, ⟨⟨j + 1, _, rfl, by omega, rfl, hOa, hBa, hs1, hs2⟩, by omega⟩, (by repeat (first | exact trivial | refine And.intro rfl ?_))⟩
        | true =>
          have hevi2 : es.getD i false = true := by rw [hevi, hei]
          have hnx2 : nx = chB l vs i := by rw [← hnx, ← hci, hbi, hei, hlf]; rfl
          (repeat (first | with_reducible refine W.seq ?_ | with_reducible refine Ops.nil ?_ | with_reducible refine W.region ?_ | refine z_p (kk := ?_) | refine z_a (kk := ?_) | refine z_y (kk := ?_) | refine z_n (kk := ?_) | refine z_u (kk := ?_) | with_reducible refine W.skip ?_ | with_reducible refine W.endb ?_ | with_reducible refine W.block ?_ | refine W.exit rfl ?_ | refine z_l (kk := ?_) | refine z_f (kk := ?_) | refine z_M (kk := ?_) | refine z_m (kk := ?_) | refine z_e (kk := ?_) | refine z_E (kk := ?_) | refine z_d (kk := ?_) | refine z_I (kk := fun _ => ?_) | refine z_J (kk := fun _ => ?_) | refine z_K (kk := fun _ => ?_) | refine z_L (kk := fun _ => ?_) | refine z_T (kk := ?_) | refine z_F (kk := ?_) | refine z_k (kk := fun _ _ _ _ _ => ?_) | refine z_w (kk := fun _ _ => ?_) | refine z_s (kk := fun _ _ _ _ => ?_) | refine z_D (kk := ?_) | refine z_g (kk := ?_) | refine z_h (kk := ?_)))
          rw [hnx2]
          refine Ops.wrOi (u := ((kid l i).getD j 0 == chB l vs i)) (enc := Value.bool) rfl rfl rfl rfl rfl rfl rfl rfl rfl rfl rfl rfl (by simp) rfl hB9 (by omega) (by omega) (fun wa _ hBa ka _ => ?_)
          have hbe : ((kid l i).getD j 0 == chB l vs i) = (cs.getD i false && (!evB dep i || decide ((kid l i).getD j 0 = chB l vs i))) := by rw [hbi, hei]; simp [Bool.beq_eq_decide_eq]
          have hOa := hfin _ wa hbe hBa ka
          obtain ⟨hs1, hs2⟩ := hst _ hbe
          rw [← hnx2]
          (repeat (first | with_reducible refine W.seq ?_ | with_reducible refine Ops.nil ?_ | with_reducible refine W.region ?_ | refine z_p (kk := ?_) | refine z_a (kk := ?_) | refine z_y (kk := ?_) | refine z_n (kk := ?_) | refine z_u (kk := ?_) | with_reducible refine W.skip ?_ | with_reducible refine W.endb ?_ | with_reducible refine W.block ?_ | refine W.exit rfl ?_ | refine z_l (kk := ?_) | refine z_f (kk := ?_) | refine z_M (kk := ?_) | refine z_m (kk := ?_) | refine z_e (kk := ?_) | refine z_E (kk := ?_) | refine z_d (kk := ?_) | refine z_I (kk := fun _ => ?_) | refine z_J (kk := fun _ => ?_) | refine z_K (kk := fun _ => ?_) | refine z_L (kk := fun _ => ?_) | refine z_T (kk := ?_) | refine z_F (kk := ?_) | refine z_k (kk := fun _ _ _ _ _ => ?_) | refine z_w (kk := fun _ _ => ?_) | refine z_s (kk := fun _ _ _ _ => ?_) | refine z_D (kk := ?_) | refine z_g (kk := ?_) | refine z_h (kk := ?_)))
          exact W.endl ⟨_, _, ⟨⟨j + 1, _, rfl, by omega, rfl, hOa, hBa, hs1, hs2⟩, by omega⟩, (by repeat (first | exact trivial | refine And.intro rfl ?_))⟩
    · have hjl : j = (kid l i).length := by omega
      subst hjl
      have ho9 : ∀ j : Nat, j < i + 1 → (out ++ [nx]).getD j 0 = if cs.getD j false && evB dep j && !leafB l j then chB l vs j else -1 := fun j hj => by rw [hsame j (by omega)]; exact ho8 j hj
      (repeat (first | with_reducible refine W.seq ?_ | with_reducible refine Ops.nil ?_ | with_reducible refine W.region ?_ | refine z_p (kk := ?_) | refine z_a (kk := ?_) | refine z_y (kk := ?_) | refine z_n (kk := ?_) | refine z_u (kk := ?_) | with_reducible refine W.skip ?_ | with_reducible refine W.endb ?_ | with_reducible refine W.block ?_ | refine W.exit rfl ?_ | refine z_l (kk := ?_) | refine z_f (kk := ?_) | refine z_M (kk := ?_) | refine z_m (kk := ?_) | refine z_e (kk := ?_) | refine z_E (kk := ?_) | refine z_d (kk := ?_) | refine z_I (kk := fun _ => ?_) | refine z_J (kk := fun _ => ?_) | refine z_K (kk := fun _ => ?_) | refine z_L (kk := fun _ => ?_) | refine z_T (kk := ?_) | refine z_F (kk := ?_) | refine z_k (kk := fun _ _ _ _ _ => ?_) | refine z_w (kk := fun _ _ => ?_) | refine z_s (kk := fun _ _ _ _ => ?_) | refine z_D (kk := ?_) | refine z_g (kk := ?_) | refine z_h (kk := ?_)))
      exact W.endl ⟨_, _, ⟨⟨i + 1, _, _, _, rfl, by omega, rfl, hO9, hB9, hne8, hP9.row, by simp [hol], ho9⟩, by omega⟩, (by repeat (first | exact trivial | refine And.intro rfl ?_))⟩
  · have hil : i = l.length := by omega
    subst hil
    (repeat (first | with_reducible refine W.seq ?_ | with_reducible refine Ops.nil ?_ | with_reducible refine W.region ?_ | refine z_p (kk := ?_) | refine z_a (kk := ?_) | refine z_y (kk := ?_) | refine z_n (kk := ?_) | refine z_u (kk := ?_) | with_reducible refine W.skip ?_ | with_reducible refine W.endb ?_ | with_reducible refine W.block ?_ | refine W.exit rfl ?_ | refine z_l (kk := ?_) | refine z_f (kk := ?_) | refine z_M (kk := ?_) | refine z_m (kk := ?_) | refine z_e (kk := ?_) | refine z_E (kk := ?_) | refine z_d (kk := ?_) | refine z_I (kk := fun _ => ?_) | refine z_J (kk := fun _ => ?_) | refine z_K (kk := fun _ => ?_) | refine z_L (kk := fun _ => ?_) | refine z_T (kk := ?_) | refine z_F (kk := ?_) | refine z_k (kk := fun _ _ _ _ _ => ?_) | refine z_w (kk := fun _ _ => ?_) | refine z_s (kk := fun _ _ _ _ => ?_) | refine z_D (kk := ?_) | refine z_g (kk := ?_) | refine z_h (kk := ?_)))
    exact W.fret rfl ⟨vs, _, out, hvs, hP.plan hT hol ho, hO.up hb2⟩
end Go.Proofs.Ytdiljpnfochndaa
namespace Go.Proofs.Ytdiljpnfochndaa
open Go Go.RowKit Go.Proofs.Ytdiljpnfochndaa.VW
open Go.Proofs.Ytdiljpnfochndaa.HP (Nd kid wor leafB rd evB gameOf gameOf_TF TF TK ValP k_ PI PlanS Dn far kid_mem_at)
attribute [local irreducible] W Ops OrdA VW.Ord OrdX Wi OpsI
theorem RP.ex {l : List Nd} {dep : List Int} (hT : TF l dep) (ch : Int → Int) : ∃ bs, RP l dep ch l.length 0 bs := by
  have hn := hT.n1
  have h1 : ∀ i, i ≤ l.length → ∃ bs, RP l dep ch i 0 bs := by
    intro i
    induction i with
    | zero => exact fun _ => ⟨(List.replicate l.length false).set 0 true, by simp, bgetD_set_eq (by simp; omega), fun a b hd => by unfold Dn at hd; omega⟩
    | succ i ih =>
      intro hi
      obtain ⟨bs, h⟩ := ih (by omega)
      have h2 : ∀ j, j ≤ (kid l i).length → ∃ bs, RP l dep ch i j bs := by
        intro j
        induction j with
        | zero => exact fun _ => ⟨bs, h⟩
        | succ j ihj =>
          intro hj
          obtain ⟨bs, h⟩ := ihj (by omega)
          exact ⟨_, h.next hT (by omega) (by omega) rfl⟩
      obtain ⟨bs, h⟩ := h2 _ (Nat.le_refl _)
      exact ⟨bs, h.row⟩
  exact h1 _ (Nat.le_refl _)
theorem RP.same {l : List Nd} {dep : List Int} {ch : Int → Int} {i j : Nat} {bs bs' : List Bool} (hT : TF l dep) (h : RP l dep ch i j bs) (h' : RP l dep ch l.length 0 bs') : ∀ c : Nat, c ≤ i → c < l.length → bs.getD c false = bs'.getD c false := by
  intro c
  induction c using Nat.strongRecOn with
  | _ c ih =>
    intro hc hn
    by_cases e : c = 0
    · subst e; rw [h.r0, h'.r0]
    · obtain ⟨a, b, ha, hb, hk⟩ := hT.cov c (by omega) hn
      have hl := hT.kin a b ha hb
      have h1 := h.step a b (.inl (by omega)) hb
      have h2 := h'.step a b (.inl ha) hb
      rw [hk] at h1 h2
      simp only [Int.toNat_natCast] at h1 h2
      rw [h1, h2, ih a (by omega) (by omega) ha]
theorem st_uniq {l : List Nd} {dep : List Int} (hT : TF l dep) {f g : Int → Bool} (h0 : f 0 = g 0) (hs : ∀ a b : Nat, a < l.length → b < (kid l a).length → f a = g a → f (k_ l a b) = g (k_ l a b)) : ∀ c : Nat, c < l.length → f c = g c := by
  intro c
  induction c using Nat.strongRecOn with
  | _ c ih =>
    intro hn
    by_cases e : c = 0
    · subst e; exact h0
    · obtain ⟨a, b, ha, hb, hk⟩ := hT.cov c (by omega) hn
      have hl := hT.kin a b ha hb
      rw [← hk]
      exact hs a b ha hb (ih a (by omega) ha)
def okN (l : List Nd) (dep xs : List Int) (bs : List Bool) (i : Nat) : Bool := if bs.getD i false && evB dep i && !leafB l i then decide (rd xs i ∈ kid l i) else decide (rd xs i = -1)
def OkP (l : List Nd) (dep xs : List Int) (bs : List Bool) : Prop := ∀ i : Nat, i < l.length → okN l dep xs bs i = true
theorem inner_of_kid {l : List Nd} {a b : Nat} (hb : b < (kid l a).length) : leafB l a = false := by unfold leafB; cases hk : kid l a with | nil => rw [hk] at hb; simp at hb | cons _ _ => simp
theorem RP.fB {l : List Nd} {dep : List Int} {ch : Int → Int} {bs : List Bool} (h : RP l dep ch l.length 0 bs) {a b : Nat} (ha : a < l.length) (hb : b < (kid l a).length) (hT : TF l dep) : bs.getD (k_ l a b).toNat false = (bs.getD a false && (!evB dep a || decide (k_ l a b = ch a))) := h.step a b (.inl ha) hb
theorem plan_f {l : List Nd} {dep xs out : List Int} {bs : List Bool} {f : Int → Bool} (hT : TF l dep) (hbs : RP l dep (rd xs) l.length 0 bs) (hP : PlanS l dep (chk l xs) f out)
    (hr : ∀ i : Nat, i < l.length → f i = bs.getD i false → f i = true → evB dep i = true → leafB l i = false → rd xs i ∈ kid l i) : ∀ i : Nat, i < l.length → f i = bs.getD i false := by
  have := st_uniq hT (f := f) (g := fun c => bs.getD c.toNat false) (by rw [hP.r0]; exact hbs.r0.symm) (fun a b ha hb e => by
    have e' : f a = bs.getD a false := e
    show f (k_ l a b) = bs.getD (k_ l a b).toNat false
    rw [hP.step a b ha hb, hbs.fB ha hb hT, ← e']
    cases hf : f a with
    | false => rfl
    | true =>
      cases he : evB dep a with
      | false => rfl
      | true =>
        have hm := hr a ha e' hf he (inner_of_kid hb)
        unfold chk
        rw [if_pos hm])
  exact fun i hi => this i hi
theorem ok_of_plan {l : List Nd} {dep xs : List Int} {bs : List Bool} {f : Int → Bool} (hT : TF l dep) (hbs : RP l dep (rd xs) l.length 0 bs) (hP : PlanS l dep (chk l xs) f xs)
    (hr : ∀ i : Nat, i < l.length → f i = true → evB dep i = true → leafB l i = false → rd xs i ∈ kid l i) : OkP l dep xs bs := by
  have hf := plan_f hT hbs hP (fun i hi _ => hr i hi)
  intro i hi
  have hd := hP.done i hi
  have hrx : rd xs i = xs.getD i 0 := rfl
  unfold okN
  rw [← hf i hi]
  split
  · rename_i h
    simp only [Bool.and_eq_true, Bool.not_eq_true'] at h
    exact decide_eq_true (hr i hi h.1.1 h.1.2 h.2)
  · rename_i h
    rw [if_neg h] at hd
    exact decide_eq_true (by rw [hrx, hd])
theorem plan_of_ok {l : List Nd} {dep xs out : List Int} {bs : List Bool} {f : Int → Bool} (hT : TF l dep) (hbs : RP l dep (rd xs) l.length 0 bs) (hP : PlanS l dep (chk l xs) f out) (hok : OkP l dep xs bs) (hxl : xs.length = l.length) :
    out = xs ∧ (∀ i : Nat, i < l.length → f i = bs.getD i false) ∧ ∀ i : Nat, i < l.length → f i = true → evB dep i = true → leafB l i = false → rd xs i ∈ kid l i := by
  have hr : ∀ i : Nat, i < l.length → f i = bs.getD i false → f i = true → evB dep i = true → leafB l i = false → rd xs i ∈ kid l i := fun i hi e h1 h2 h3 => by
    have := hok i hi
    unfold okN at this
    rw [← e, h1, h2, h3, if_pos (by rfl)] at this
    exact of_decide_eq_true this
  have hf := plan_f hT hbs hP hr
  refine ⟨?_, hf, fun i hi => hr i hi (hf i hi)⟩
  apply List.ext_getElem (by rw [hP.len, hxl])
  intro j h1 h2
  have hj : j < l.length := by omega
  have hd := hP.done j hj
  have ho := hok j hj
  have hrx : rd xs j = xs.getD j 0 := rfl
  unfold okN at ho
  rw [← hf j hj] at ho
  have e1 : out.getD j 0 = out[j] := by simp [List.getD_eq_getElem?_getD, h1]
  have e2 : xs.getD j 0 = xs[j] := by simp [List.getD_eq_getElem?_getD, h2]
  rw [← e1, ← e2, hd]
  split
  · rename_i h
    rw [if_pos h] at ho
    have hm := of_decide_eq_true ho
    unfold chk
    rw [if_pos hm]
    rfl
  · rename_i h
    rw [if_neg h] at ho
    have hm := of_decide_eq_true ho
    rw [← hrx, hm]
def lst (l : List Nd) (f : Nat → Bool) (z : Int) : Nat → Int
  | 0 => z
  | i + 1 => if f i && leafB l i then min (lst l f z i) (wor l i) else lst l f z i
theorem lst_congr {l : List Nd} {f g : Nat → Bool} {z : Int} : ∀ {i : Nat}, (∀ j : Nat, j < i → f j = g j) → lst l f z i = lst l g z i
  | 0, _ => rfl
  | i + 1, h => by simp only [lst]; rw [h i (by omega), lst_congr (fun j hj => h j (by omega))]
theorem lst_far {l : List Nd} {dep : List Int} (hT : TF l dep) {f : Nat → Bool} : ∀ i : Nat, i ≤ l.length → ((∃ j : Nat, j < i ∧ (f j && leafB l j) = true) → lst l f far i = lst l f 1000000 i) ∧ ((¬ ∃ j : Nat, j < i ∧ (f j && leafB l j) = true) → lst l f far i = far ∧ lst l f 1000000 i = 1000000)
  | 0, _ => ⟨fun ⟨j, h, _⟩ => by omega, fun _ => ⟨rfl, rfl⟩⟩
  | i + 1, hi => by
    obtain ⟨h1, h2⟩ := lst_far hT (f := f) i (by omega)
    obtain ⟨w1, w2, _⟩ := hT.wor i (by omega)
    simp only [lst]
    refine ⟨fun ⟨j, hj, hl⟩ => ?_, fun h => ?_⟩
    · by_cases he : ∃ j : Nat, j < i ∧ (f j && leafB l j) = true
      · rw [h1 he]
      · obtain ⟨e1, e2⟩ := h2 he
        have : j = i := by
          rcases Nat.lt_or_ge j i with h | h
          · exact absurd ⟨j, h, hl⟩ he
          · omega
        subst this
        rw [if_pos hl, if_pos hl, e1, e2]
        unfold far
        omega
    · have hn : ¬ (f i && leafB l i) = true := fun e => h ⟨i, by omega, e⟩
      rw [if_neg hn, if_neg hn]
      exact h2 fun ⟨j, hj, e⟩ => h ⟨j, by omega, e⟩
theorem reach_leaf {l : List Nd} {dep xs : List Int} {bs : List Bool} (hT : TF l dep) (hbs : RP l dep (rd xs) l.length 0 bs) (hok : OkP l dep xs bs) : ∃ j : Nat, j < l.length ∧ (bs.getD j false && leafB l j) = true := by
  have key : ∀ d i : Nat, l.length - i = d → i < l.length → bs.getD i false = true → ∃ j : Nat, j < l.length ∧ (bs.getD j false && leafB l j) = true := by
    intro d
    induction d using Nat.strongRecOn with
    | _ d ih =>
      intro i hd hi hb
      cases hl : leafB l i with
      | true => exact ⟨i, hi, by rw [hb, hl]; rfl⟩
      | false =>
        have hstep : ∀ b : Nat, b < (kid l i).length → (evB dep i = true → k_ l i b = rd xs i) → ∃ j : Nat, j < l.length ∧ (bs.getD j false && leafB l j) = true := fun b hbk he => by
          have hk := hT.kin i b hi hbk
          have hs := hbs.fB hi hbk hT
          rw [hb] at hs
          refine ih (l.length - (k_ l i b).toNat) (by omega) (k_ l i b).toNat rfl (by omega) ?_
          rw [hs]
          cases hev : evB dep i with
          | false => rfl
          | true => simp [he hev]
        cases hev : evB dep i with
        | true =>
          have := hok i hi
          unfold okN at this
          rw [hb, hev, hl, if_pos (by rfl)] at this
          obtain ⟨b, hbk, e⟩ := kid_mem_at (of_decide_eq_true this)
          exact hstep b hbk fun _ => e
        | false =>
          have : 0 < (kid l i).length := by unfold leafB at hl; cases hk : kid l i with | nil => rw [hk] at hl; simp at hl | cons _ _ => simp
          exact hstep 0 this fun h => by rw [hev] at h; cases h
  exact key _ 0 rfl hT.n1 hbs.r0
end Go.Proofs.Ytdiljpnfochndaa
