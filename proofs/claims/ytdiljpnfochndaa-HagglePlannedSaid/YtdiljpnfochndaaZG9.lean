/- A part of the walk: what this seat's statements share. -/
import Derived.Test.YtdiljpnfochndaaZG8
import Derived.Test.YtdiljpnfochndaaZG7
import Derived.Test.YtdiljpnfochndaaZG3
set_option linter.unusedVariables false
set_option linter.unusedSimpArgs false
set_option linter.unusedSectionVars false
namespace Go.Proofs.Ytdiljpnfochndaa
open Go Go.RowKit Go.Proofs.Ytdiljpnfochndaa.VW
open Go.Proofs.Ytdiljpnfochndaa.HP (Nd kid wor leafB rd evB gameOf gameOf_TF TF TK ValP k_)
attribute [local irreducible] W Ops OrdA VW.Ord OrdX Wi OpsI
set_option maxHeartbeats 4000000 in
theorem leaves1_in {g b1 lp : Nat} {l : List Nd} {dep : List Int} {J : Nat → World → Prop} (hT : TF l dep)
    (hJ : ∀ i W, J i W → Blk W b1 #[.pointer (some ⟨g, 0, none⟩)] 69 ∧ Game W g l dep)
    (hno : ∀ i W, J i W → i < l.length → leafB l i = false → J (i + 1) W)
    (hyes : ∀ i W, J i W → i < l.length → leafB l i = true → YieldAt (Fw none) 0 Try.prog lp #[.int .i64 i] W (fun e W' => e = .returned (.bool true) ∧ J (i + 1) W'))
    {w : World} (h0 : J 0 w) : CallsIn (Fw none) 0 Try.prog 97 #[.func (.yield lp) #[] #[], .pointer (some ⟨b1, 0, none⟩)] w (Ret fun v w' => J l.length w') := by
  have hn60 := hT.n60
  have hdl := hT.len
  obtain ⟨hB, hG⟩ := hJ _ _ h0
  obtain ⟨tv, dv, hGB, hGT, hGD⟩ := hG.out
  obtain ⟨At, ct, rfl⟩ := hGT.sl
  refine callsIn_Wi (vs := [_, _]) Try.func97 rfl rfl ?_
  refine Wi.seq (Wi.regionN rfl rfl ?_)
  (repeat (first | with_reducible refine W.seq ?_ | with_reducible refine Ops.nil ?_ | with_reducible refine W.region ?_ | refine z_p (kk := ?_) | refine z_a (kk := ?_) | refine z_y (kk := ?_) | refine z_n (kk := ?_) | refine z_u (kk := ?_) | with_reducible refine W.skip ?_ | with_reducible refine W.endb ?_ | with_reducible refine W.block ?_ | refine W.exit rfl ?_ | refine z_l (kk := ?_) | refine z_f (kk := ?_) | refine z_M (kk := ?_) | refine z_m (kk := ?_) | refine z_e (kk := ?_) | refine z_E (kk := ?_) | refine z_d (kk := ?_) | refine z_I (kk := fun _ => ?_) | refine z_J (kk := fun _ => ?_) | refine z_K (kk := fun _ => ?_) | refine z_L (kk := fun _ => ?_) | refine z_T (kk := ?_) | refine z_F (kk := ?_) | refine z_k (kk := fun _ _ _ _ _ => ?_) | refine z_w (kk := fun _ _ => ?_) | refine z_s (kk := fun _ _ _ _ => ?_) | refine z_D (kk := ?_) | refine z_g (kk := ?_) | refine z_h (kk := ?_)))
  refine W.endl ?_
  refine Wi.sub (ρ' := [(0, .func (.yield lp) #[] #[]), (1, .pointer (some ⟨b1, 0, none⟩)), (8, .int .i64 l.length), (9, .int .i64 0)]) (by repeat (first | exact trivial | refine And.intro rfl ?_)) ?_
  clear hG hGB hGT hGD hB
  refine Wi.block (Wi.loop (m := l.length) (fun m ρ w1 => ∃ i : Nat, m = l.length - i ∧ i ≤ l.length ∧ ρ = [(0, .func (.yield lp) #[] #[]), (1, .pointer (some ⟨b1, 0, none⟩)), (8, .int .i64 l.length), (9, .int .i64 i)] ∧ J i w1) ⟨0, rfl, Nat.zero_le _, rfl, h0⟩ ?_)
  rintro m ρ w1 ⟨i, rfl, hi, rfl, hj⟩
  obtain ⟨hB, hG⟩ := hJ _ _ hj
  refine Wi.seq (Wi.regionN rfl rfl ?_)
  (repeat (first | with_reducible refine W.seq ?_ | with_reducible refine Ops.nil ?_ | with_reducible refine W.region ?_ | refine z_p (kk := ?_) | refine z_a (kk := ?_) | refine z_y (kk := ?_) | refine z_n (kk := ?_) | refine z_u (kk := ?_) | with_reducible refine W.skip ?_ | with_reducible refine W.endb ?_ | with_reducible refine W.block ?_ | refine W.exit rfl ?_ | refine z_l (kk := ?_) | refine z_f (kk := ?_) | refine z_M (kk := ?_) | refine z_m (kk := ?_) | refine z_e (kk := ?_) | refine z_E (kk := ?_) | refine z_d (kk := ?_) | refine z_I (kk := fun _ => ?_) | refine z_J (kk := fun _ => ?_) | refine z_K (kk := fun _ => ?_) | refine z_L (kk := fun _ => ?_) | refine z_T (kk := ?_) | refine z_F (kk := ?_) | refine z_k (kk := fun _ _ _ _ _ => ?_) | refine z_w (kk := fun _ _ => ?_) | refine z_s (kk := fun _ _ _ _ => ?_) | refine z_D (kk := ?_) | refine z_g (kk := ?_) | refine z_h (kk := ?_)))
  refine W.endl ?_
  refine Wi.seq (Wi.cond rfl (fun hc => ?_) (fun hc => ?_))
  · have hil : i < l.length := by simpa using hc
    refine Wi.skip ?_
    refine Wi.seq (Wi.block (Wi.seq (Wi.regionN rfl rfl ?_)))
    (repeat (first | with_reducible refine W.seq ?_ | with_reducible refine Ops.nil ?_ | with_reducible refine W.region ?_ | refine z_p (kk := ?_) | refine z_a (kk := ?_) | refine z_y (kk := ?_) | refine z_n (kk := ?_) | refine z_u (kk := ?_) | with_reducible refine W.skip ?_ | with_reducible refine W.endb ?_ | with_reducible refine W.block ?_ | refine W.exit rfl ?_ | refine z_l (kk := ?_) | refine z_f (kk := ?_) | refine z_M (kk := ?_) | refine z_m (kk := ?_) | refine z_e (kk := ?_) | refine z_E (kk := ?_) | refine z_d (kk := ?_) | refine z_I (kk := fun _ => ?_) | refine z_J (kk := fun _ => ?_) | refine z_K (kk := fun _ => ?_) | refine z_L (kk := fun _ => ?_) | refine z_T (kk := ?_) | refine z_F (kk := ?_) | refine z_k (kk := fun _ _ _ _ _ => ?_) | refine z_w (kk := fun _ _ => ?_) | refine z_s (kk := fun _ _ _ _ => ?_) | refine z_D (kk := ?_) | refine z_g (kk := ?_) | refine z_h (kk := ?_)))
    refine W.endl ?_
    refine Wi.seq (Wi.region ?_)
    refine OpsI.split 4 rfl rfl rfl rfl ?_
    (repeat (first | with_reducible refine W.seq ?_ | with_reducible refine Ops.nil ?_ | with_reducible refine W.region ?_ | refine z_p (kk := ?_) | refine z_a (kk := ?_) | refine z_y (kk := ?_) | refine z_n (kk := ?_) | refine z_u (kk := ?_) | with_reducible refine W.skip ?_ | with_reducible refine W.endb ?_ | with_reducible refine W.block ?_ | refine W.exit rfl ?_ | refine z_l (kk := ?_) | refine z_f (kk := ?_) | refine z_M (kk := ?_) | refine z_m (kk := ?_) | refine z_e (kk := ?_) | refine z_E (kk := ?_) | refine z_d (kk := ?_) | refine z_I (kk := fun _ => ?_) | refine z_J (kk := fun _ => ?_) | refine z_K (kk := fun _ => ?_) | refine z_L (kk := fun _ => ?_) | refine z_T (kk := ?_) | refine z_F (kk := ?_) | refine z_k (kk := fun _ _ _ _ _ => ?_) | refine z_w (kk := fun _ _ => ?_) | refine z_s (kk := fun _ _ _ _ => ?_) | refine z_D (kk := ?_) | refine z_g (kk := ?_) | refine z_h (kk := ?_)))
    refine Ops.callS rfl rfl rfl rfl rfl (isLeaf_c hG i (by omega) (by omega)) ?_
    cases hlf : leafB l i with
    | true =>
      (repeat (first | with_reducible refine W.seq ?_ | with_reducible refine Ops.nil ?_ | with_reducible refine W.region ?_ | refine z_p (kk := ?_) | refine z_a (kk := ?_) | refine z_y (kk := ?_) | refine z_n (kk := ?_) | refine z_u (kk := ?_) | with_reducible refine W.skip ?_ | with_reducible refine W.endb ?_ | with_reducible refine W.block ?_ | refine W.exit rfl ?_ | refine z_l (kk := ?_) | refine z_f (kk := ?_) | refine z_M (kk := ?_) | refine z_m (kk := ?_) | refine z_e (kk := ?_) | refine z_E (kk := ?_) | refine z_d (kk := ?_) | refine z_I (kk := fun _ => ?_) | refine z_J (kk := fun _ => ?_) | refine z_K (kk := fun _ => ?_) | refine z_L (kk := fun _ => ?_) | refine z_T (kk := ?_) | refine z_F (kk := ?_) | refine z_k (kk := fun _ _ _ _ _ => ?_) | refine z_w (kk := fun _ _ => ?_) | refine z_s (kk := fun _ _ _ _ => ?_) | refine z_D (kk := ?_) | refine z_g (kk := ?_) | refine z_h (kk := ?_)))
      refine Ops.nil (W.endl ?_)
      refine OpsI.split 2 rfl rfl rfl rfl ?_
      (repeat (first | with_reducible refine W.seq ?_ | with_reducible refine Ops.nil ?_ | with_reducible refine W.region ?_ | refine z_p (kk := ?_) | refine z_a (kk := ?_) | refine z_y (kk := ?_) | refine z_n (kk := ?_) | refine z_u (kk := ?_) | with_reducible refine W.skip ?_ | with_reducible refine W.endb ?_ | with_reducible refine W.block ?_ | refine W.exit rfl ?_ | refine z_l (kk := ?_) | refine z_f (kk := ?_) | refine z_M (kk := ?_) | refine z_m (kk := ?_) | refine z_e (kk := ?_) | refine z_E (kk := ?_) | refine z_d (kk := ?_) | refine z_I (kk := fun _ => ?_) | refine z_J (kk := fun _ => ?_) | refine z_K (kk := fun _ => ?_) | refine z_L (kk := fun _ => ?_) | refine z_T (kk := ?_) | refine z_F (kk := ?_) | refine z_k (kk := fun _ _ _ _ _ => ?_) | refine z_w (kk := fun _ _ => ?_) | refine z_s (kk := fun _ _ _ _ => ?_) | refine z_D (kk := ?_) | refine z_g (kk := ?_) | refine z_h (kk := ?_)))
      refine Ops.nil (W.endl ?_)
      obtain ⟨fn, tmps, assign, body, hr, hR⟩ := hyes i w1 hj hil hlf
      refine OpsI.yield rfl rfl rfl rfl rfl rfl rfl rfl ⟨fn, tmps, assign, body, hr, hR.mono fun e W' he => ⟨he.1, ?_⟩⟩
      have hj2 := he.2
      refine OpsI.split 2 rfl rfl rfl rfl ?_
      (repeat (first | with_reducible refine W.seq ?_ | with_reducible refine Ops.nil ?_ | with_reducible refine W.region ?_ | refine z_p (kk := ?_) | refine z_a (kk := ?_) | refine z_y (kk := ?_) | refine z_n (kk := ?_) | refine z_u (kk := ?_) | with_reducible refine W.skip ?_ | with_reducible refine W.endb ?_ | with_reducible refine W.block ?_ | refine W.exit rfl ?_ | refine z_l (kk := ?_) | refine z_f (kk := ?_) | refine z_M (kk := ?_) | refine z_m (kk := ?_) | refine z_e (kk := ?_) | refine z_E (kk := ?_) | refine z_d (kk := ?_) | refine z_I (kk := fun _ => ?_) | refine z_J (kk := fun _ => ?_) | refine z_K (kk := fun _ => ?_) | refine z_L (kk := fun _ => ?_) | refine z_T (kk := ?_) | refine z_F (kk := ?_) | refine z_k (kk := fun _ _ _ _ _ => ?_) | refine z_w (kk := fun _ _ => ?_) | refine z_s (kk := fun _ _ _ _ => ?_) | refine z_D (kk := ?_) | refine z_g (kk := ?_) | refine z_h (kk := ?_)))
      refine Ops.nil (W.endl (OpsI.nil ?_))
      refine Wi.cond rfl (fun hc => ?_) (fun _ => Wi.skip ?_)
      · simp at hc
      refine Wi.regionN rfl rfl ?_
      (repeat (first | with_reducible refine W.seq ?_ | with_reducible refine Ops.nil ?_ | with_reducible refine W.region ?_ | refine z_p (kk := ?_) | refine z_a (kk := ?_) | refine z_y (kk := ?_) | refine z_n (kk := ?_) | refine z_u (kk := ?_) | with_reducible refine W.skip ?_ | with_reducible refine W.endb ?_ | with_reducible refine W.block ?_ | refine W.exit rfl ?_ | refine z_l (kk := ?_) | refine z_f (kk := ?_) | refine z_M (kk := ?_) | refine z_m (kk := ?_) | refine z_e (kk := ?_) | refine z_E (kk := ?_) | refine z_d (kk := ?_) | refine z_I (kk := fun _ => ?_) | refine z_J (kk := fun _ => ?_) | refine z_K (kk := fun _ => ?_) | refine z_L (kk := fun _ => ?_) | refine z_T (kk := ?_) | refine z_F (kk := ?_) | refine z_k (kk := fun _ _ _ _ _ => ?_) | refine z_w (kk := fun _ _ => ?_) | refine z_s (kk := fun _ _ _ _ => ?_) | refine z_D (kk := ?_) | refine z_g (kk := ?_) | refine z_h (kk := ?_)))
      exact W.endl ⟨_, _, ⟨⟨i + 1, rfl, by omega, rfl, hj2⟩, by omega⟩, (by repeat (first | exact trivial | refine And.intro rfl ?_))⟩
    | false =>
      (repeat (first | with_reducible refine W.seq ?_ | with_reducible refine Ops.nil ?_ | with_reducible refine W.region ?_ | refine z_p (kk := ?_) | refine z_a (kk := ?_) | refine z_y (kk := ?_) | refine z_n (kk := ?_) | refine z_u (kk := ?_) | with_reducible refine W.skip ?_ | with_reducible refine W.endb ?_ | with_reducible refine W.block ?_ | refine W.exit rfl ?_ | refine z_l (kk := ?_) | refine z_f (kk := ?_) | refine z_M (kk := ?_) | refine z_m (kk := ?_) | refine z_e (kk := ?_) | refine z_E (kk := ?_) | refine z_d (kk := ?_) | refine z_I (kk := fun _ => ?_) | refine z_J (kk := fun _ => ?_) | refine z_K (kk := fun _ => ?_) | refine z_L (kk := fun _ => ?_) | refine z_T (kk := ?_) | refine z_F (kk := ?_) | refine z_k (kk := fun _ _ _ _ _ => ?_) | refine z_w (kk := fun _ _ => ?_) | refine z_s (kk := fun _ _ _ _ => ?_) | refine z_D (kk := ?_) | refine z_g (kk := ?_) | refine z_h (kk := ?_)))
      refine Ops.nil (W.endl ?_)
      refine OpsI.split 5 rfl rfl rfl rfl ?_
      (repeat (first | with_reducible refine W.seq ?_ | with_reducible refine Ops.nil ?_ | with_reducible refine W.region ?_ | refine z_p (kk := ?_) | refine z_a (kk := ?_) | refine z_y (kk := ?_) | refine z_n (kk := ?_) | refine z_u (kk := ?_) | with_reducible refine W.skip ?_ | with_reducible refine W.endb ?_ | with_reducible refine W.block ?_ | refine W.exit rfl ?_ | refine z_l (kk := ?_) | refine z_f (kk := ?_) | refine z_M (kk := ?_) | refine z_m (kk := ?_) | refine z_e (kk := ?_) | refine z_E (kk := ?_) | refine z_d (kk := ?_) | refine z_I (kk := fun _ => ?_) | refine z_J (kk := fun _ => ?_) | refine z_K (kk := fun _ => ?_) | refine z_L (kk := fun _ => ?_) | refine z_T (kk := ?_) | refine z_F (kk := ?_) | refine z_k (kk := fun _ _ _ _ _ => ?_) | refine z_w (kk := fun _ _ => ?_) | refine z_s (kk := fun _ _ _ _ => ?_) | refine z_D (kk := ?_) | refine z_g (kk := ?_) | refine z_h (kk := ?_)))
      refine Ops.nil (W.endl (OpsI.nil ?_))
      refine Wi.cond rfl (fun hc => ?_) (fun _ => Wi.skip ?_)
      · simp at hc
      refine Wi.regionN rfl rfl ?_
      (repeat (first | with_reducible refine W.seq ?_ | with_reducible refine Ops.nil ?_ | with_reducible refine W.region ?_ | refine z_p (kk := ?_) | refine z_a (kk := ?_) | refine z_y (kk := ?_) | refine z_n (kk := ?_) | refine z_u (kk := ?_) | with_reducible refine W.skip ?_ | with_reducible refine W.endb ?_ | with_reducible refine W.block ?_ | refine W.exit rfl ?_ | refine z_l (kk := ?_) | refine z_f (kk := ?_) | refine z_M (kk := ?_) | refine z_m (kk := ?_) | refine z_e (kk := ?_) | refine z_E (kk := ?_) | refine z_d (kk := ?_) | refine z_I (kk := fun _ => ?_) | refine z_J (kk := fun _ => ?_) | refine z_K (kk := fun _ => ?_) | refine z_L (kk := fun _ => ?_) | refine z_T (kk := ?_) | refine z_F (kk := ?_) | refine z_k (kk := fun _ _ _ _ _ => ?_) | refine z_w (kk := fun _ _ => ?_) | refine z_s (kk := fun _ _ _ _ => ?_) | refine z_D (kk := ?_) | refine z_g (kk := ?_) | refine z_h (kk := ?_)))
      exact W.endl ⟨_, _, ⟨⟨i + 1, rfl, by omega, rfl, hno i w1 hj hil hlf⟩, by omega⟩, (by repeat (first | exact trivial | refine And.intro rfl ?_))⟩
  · have : i = l.length := by simp at hc; omega
    subst this
    refine Wi.exit ?_
    show ite _ _ _
    rw [if_pos rfl]
    exact ⟨.inl rfl, _, rfl, hj⟩
end Go.Proofs.Ytdiljpnfochndaa
namespace Go.Proofs.Ytdiljpnfochndaa
open Go Go.RowKit Go.Proofs.Ytdiljpnfochndaa.VW
open Go.Proofs.Ytdiljpnfochndaa.HP (Nd kid wor leafB rd evB gameOf gameOf_TF TF TK ValP k_)
attribute [local irreducible] W Ops OrdA VW.Ord OrdX Wi OpsI
theorem index_c {w : World} {v : Value} {xs : List Int} {x : Int} (h : SlI w v xs) (hl : xs.length ≤ 9223372036854775807) :
    Calls Try.prog 96 #[v, .int .i64 x] w (Ret fun r w' => w' = w ∧ ∃ j : Int, r = .int .i64 j ∧ (0 ≤ j ↔ x ∈ xs)) := by
  obtain ⟨A, c, rfl⟩ := Sl.sl h
  refine calls_W (vs := [_, _]) Try.func96 rfl (by kernel_rfl) rfl ?_
  (repeat (first | with_reducible refine W.seq ?_ | with_reducible refine Ops.nil ?_ | with_reducible refine W.region ?_ | refine z_p (kk := ?_) | refine z_a (kk := ?_) | refine z_y (kk := ?_) | refine z_n (kk := ?_) | refine z_u (kk := ?_) | with_reducible refine W.skip ?_ | with_reducible refine W.endb ?_ | with_reducible refine W.block ?_ | refine W.exit rfl ?_ | refine z_l (kk := ?_) | refine z_f (kk := ?_) | refine z_M (kk := ?_) | refine z_m (kk := ?_) | refine z_e (kk := ?_) | refine z_E (kk := ?_) | refine z_d (kk := ?_) | refine z_I (kk := fun _ => ?_) | refine z_J (kk := fun _ => ?_) | refine z_K (kk := fun _ => ?_) | refine z_L (kk := fun _ => ?_) | refine z_T (kk := ?_) | refine z_F (kk := ?_) | refine z_k (kk := fun _ _ _ _ _ => ?_) | refine z_w (kk := fun _ _ => ?_) | refine z_s (kk := fun _ _ _ _ => ?_) | refine z_D (kk := ?_) | refine z_g (kk := ?_) | refine z_h (kk := ?_)))
  refine W.loop (fun m ρ w1 => ∃ i : Nat, m = xs.length - i ∧ i ≤ xs.length ∧ ρ = [(0, .slice A xs.length c), (1, .int .i64 x), (7, .int .i64 xs.length), (8, .int .i64 i)] ∧ w1 = w ∧ ∀ j : Nat, j < i → xs.getD j 0 ≠ x)
    ⟨_, _, ⟨0, rfl, Nat.zero_le _, rfl, rfl, fun j h => by omega⟩, (by repeat (first | exact trivial | refine And.intro rfl ?_))⟩ ?_
  rintro m ρ w1 ⟨i, rfl, hi, rfl, rfl, hn⟩
  (repeat (first | with_reducible refine W.seq ?_ | with_reducible refine Ops.nil ?_ | with_reducible refine W.region ?_ | refine z_p (kk := ?_) | refine z_a (kk := ?_) | refine z_y (kk := ?_) | refine z_n (kk := ?_) | refine z_u (kk := ?_) | with_reducible refine W.skip ?_ | with_reducible refine W.endb ?_ | with_reducible refine W.block ?_ | refine W.exit rfl ?_ | refine z_l (kk := ?_) | refine z_f (kk := ?_) | refine z_M (kk := ?_) | refine z_m (kk := ?_) | refine z_e (kk := ?_) | refine z_E (kk := ?_) | refine z_d (kk := ?_) | refine z_I (kk := fun _ => ?_) | refine z_J (kk := fun _ => ?_) | refine z_K (kk := fun _ => ?_) | refine z_L (kk := fun _ => ?_) | refine z_T (kk := ?_) | refine z_F (kk := ?_) | refine z_k (kk := fun _ _ _ _ _ => ?_) | refine z_w (kk := fun _ _ => ?_) | refine z_s (kk := fun _ _ _ _ => ?_) | refine z_D (kk := ?_) | refine z_g (kk := ?_) | refine z_h (kk := ?_)))
  (first | refine W.condD rfl (fun hc => ?_) (fun hc => ?_) | refine W.condE rfl (fun hc => ?_) (fun hc => ?_) | refine W.condN rfl (fun hc => ?_) (fun hc => ?_) | refine W.cond rfl (fun hc => ?_) (fun hc => ?_))
  · have hil : i < xs.length := by omega
    (repeat (first | with_reducible refine W.seq ?_ | with_reducible refine Ops.nil ?_ | with_reducible refine W.region ?_ | refine z_p (kk := ?_) | refine z_a (kk := ?_) | refine z_y (kk := ?_) | refine z_n (kk := ?_) | refine z_u (kk := ?_) | with_reducible refine W.skip ?_ | with_reducible refine W.endb ?_ | with_reducible refine W.block ?_ | refine W.exit rfl ?_ | refine z_l (kk := ?_) | refine z_f (kk := ?_) | refine z_M (kk := ?_) | refine z_m (kk := ?_) | refine z_e (kk := ?_) | refine z_E (kk := ?_) | refine z_d (kk := ?_) | refine z_I (kk := fun _ => ?_) | refine z_J (kk := fun _ => ?_) | refine z_K (kk := fun _ => ?_) | refine z_L (kk := fun _ => ?_) | refine z_T (kk := ?_) | refine z_F (kk := ?_) | refine z_k (kk := fun _ _ _ _ _ => ?_) | refine z_w (kk := fun _ _ => ?_) | refine z_s (kk := fun _ _ _ _ => ?_) | refine z_D (kk := ?_) | refine z_g (kk := ?_) | refine z_h (kk := ?_)))
    by_cases e : x = xs.getD i 0
    · refine W.condT rfl (by first | rfl | assumption | (simp only [bnf] <;> omega) | (simp only [*, bnf]; done) | fail) ?_
      (repeat (first | with_reducible refine W.seq ?_ | with_reducible refine Ops.nil ?_ | with_reducible refine W.region ?_ | refine z_p (kk := ?_) | refine z_a (kk := ?_) | refine z_y (kk := ?_) | refine z_n (kk := ?_) | refine z_u (kk := ?_) | with_reducible refine W.skip ?_ | with_reducible refine W.endb ?_ | with_reducible refine W.block ?_ | refine W.exit rfl ?_ | refine z_l (kk := ?_) | refine z_f (kk := ?_) | refine z_M (kk := ?_) | refine z_m (kk := ?_) | refine z_e (kk := ?_) | refine z_E (kk := ?_) | refine z_d (kk := ?_) | refine z_I (kk := fun _ => ?_) | refine z_J (kk := fun _ => ?_) | refine z_K (kk := fun _ => ?_) | refine z_L (kk := fun _ => ?_) | refine z_T (kk := ?_) | refine z_F (kk := ?_) | refine z_k (kk := fun _ _ _ _ _ => ?_) | refine z_w (kk := fun _ _ => ?_) | refine z_s (kk := fun _ _ _ _ => ?_) | refine z_D (kk := ?_) | refine z_g (kk := ?_) | refine z_h (kk := ?_)))
      refine W.fret rfl ⟨rfl, _, rfl, fun _ => ?_, fun _ => by omega⟩
      rw [e, List.getD_eq_getElem?_getD, List.getElem?_eq_getElem hil]
      simp
    · refine W.condF rfl (by first | rfl | assumption | (simp only [bnf] <;> omega) | (simp only [*, bnf]; done) | fail) ?_
      (repeat (first | with_reducible refine W.seq ?_ | with_reducible refine Ops.nil ?_ | with_reducible refine W.region ?_ | refine z_p (kk := ?_) | refine z_a (kk := ?_) | refine z_y (kk := ?_) | refine z_n (kk := ?_) | refine z_u (kk := ?_) | with_reducible refine W.skip ?_ | with_reducible refine W.endb ?_ | with_reducible refine W.block ?_ | refine W.exit rfl ?_ | refine z_l (kk := ?_) | refine z_f (kk := ?_) | refine z_M (kk := ?_) | refine z_m (kk := ?_) | refine z_e (kk := ?_) | refine z_E (kk := ?_) | refine z_d (kk := ?_) | refine z_I (kk := fun _ => ?_) | refine z_J (kk := fun _ => ?_) | refine z_K (kk := fun _ => ?_) | refine z_L (kk := fun _ => ?_) | refine z_T (kk := ?_) | refine z_F (kk := ?_) | refine z_k (kk := fun _ _ _ _ _ => ?_) | refine z_w (kk := fun _ _ => ?_) | refine z_s (kk := fun _ _ _ _ => ?_) | refine z_D (kk := ?_) | refine z_g (kk := ?_) | refine z_h (kk := ?_)))
      refine W.endl ⟨_, _, ⟨⟨i + 1, rfl, by omega, rfl, rfl, fun j hj => ?_⟩, by omega⟩, (by repeat (first | exact trivial | refine And.intro rfl ?_))⟩
      by_cases ej : j = i
      · subst ej; exact fun h => e h.symm
      · exact hn j (by omega)
  · have : i = xs.length := by omega
    subst this
    (repeat (first | with_reducible refine W.seq ?_ | with_reducible refine Ops.nil ?_ | with_reducible refine W.region ?_ | refine z_p (kk := ?_) | refine z_a (kk := ?_) | refine z_y (kk := ?_) | refine z_n (kk := ?_) | refine z_u (kk := ?_) | with_reducible refine W.skip ?_ | with_reducible refine W.endb ?_ | with_reducible refine W.block ?_ | refine W.exit rfl ?_ | refine z_l (kk := ?_) | refine z_f (kk := ?_) | refine z_M (kk := ?_) | refine z_m (kk := ?_) | refine z_e (kk := ?_) | refine z_E (kk := ?_) | refine z_d (kk := ?_) | refine z_I (kk := fun _ => ?_) | refine z_J (kk := fun _ => ?_) | refine z_K (kk := fun _ => ?_) | refine z_L (kk := fun _ => ?_) | refine z_T (kk := ?_) | refine z_F (kk := ?_) | refine z_k (kk := fun _ _ _ _ _ => ?_) | refine z_w (kk := fun _ _ => ?_) | refine z_s (kk := fun _ _ _ _ => ?_) | refine z_D (kk := ?_) | refine z_g (kk := ?_) | refine z_h (kk := ?_)))
    refine W.fret rfl ⟨rfl, _, rfl, fun h => by omega, fun hm => ?_⟩
    obtain ⟨j, hj, e⟩ := List.mem_iff_getElem.1 hm
    exact absurd (by rw [List.getD_eq_getElem?_getD, List.getElem?_eq_getElem hj]; simpa using e) (hn j hj)
theorem contains_c {w : World} {v : Value} {xs : List Int} {x : Int} (h : SlI w v xs) (hl : xs.length ≤ 9223372036854775807) :
    Calls Try.prog 82 #[v, .int .i64 x] w (Ret fun r w' => r = .bool (decide (x ∈ xs)) ∧ w' = w) := by
  refine calls_W (vs := [_, _]) Try.func82 rfl (by kernel_rfl) rfl ?_
  (repeat (first | with_reducible refine W.seq ?_ | with_reducible refine Ops.nil ?_ | with_reducible refine W.region ?_ | refine z_p (kk := ?_) | refine z_a (kk := ?_) | refine z_y (kk := ?_) | refine z_n (kk := ?_) | refine z_u (kk := ?_) | with_reducible refine W.skip ?_ | with_reducible refine W.endb ?_ | with_reducible refine W.block ?_ | refine W.exit rfl ?_ | refine z_l (kk := ?_) | refine z_f (kk := ?_) | refine z_M (kk := ?_) | refine z_m (kk := ?_) | refine z_e (kk := ?_) | refine z_E (kk := ?_) | refine z_d (kk := ?_) | refine z_I (kk := fun _ => ?_) | refine z_J (kk := fun _ => ?_) | refine z_K (kk := fun _ => ?_) | refine z_L (kk := fun _ => ?_) | refine z_T (kk := ?_) | refine z_F (kk := ?_) | refine z_k (kk := fun _ _ _ _ _ => ?_) | refine z_w (kk := fun _ _ => ?_) | refine z_s (kk := fun _ _ _ _ => ?_) | refine z_D (kk := ?_) | refine z_g (kk := ?_) | refine z_h (kk := ?_)))
  refine Ops.call rfl rfl rfl rfl rfl (index_c h hl) (fun r w1 hR => ?_)
  obtain ⟨rfl, j, rfl, hj⟩ := hR
  (repeat (first | with_reducible refine W.seq ?_ | with_reducible refine Ops.nil ?_ | with_reducible refine W.region ?_ | refine z_p (kk := ?_) | refine z_a (kk := ?_) | refine z_y (kk := ?_) | refine z_n (kk := ?_) | refine z_u (kk := ?_) | with_reducible refine W.skip ?_ | with_reducible refine W.endb ?_ | with_reducible refine W.block ?_ | refine W.exit rfl ?_ | refine z_l (kk := ?_) | refine z_f (kk := ?_) | refine z_M (kk := ?_) | refine z_m (kk := ?_) | refine z_e (kk := ?_) | refine z_E (kk := ?_) | refine z_d (kk := ?_) | refine z_I (kk := fun _ => ?_) | refine z_J (kk := fun _ => ?_) | refine z_K (kk := fun _ => ?_) | refine z_L (kk := fun _ => ?_) | refine z_T (kk := ?_) | refine z_F (kk := ?_) | refine z_k (kk := fun _ _ _ _ _ => ?_) | refine z_w (kk := fun _ _ => ?_) | refine z_s (kk := fun _ _ _ _ => ?_) | refine z_D (kk := ?_) | refine z_g (kk := ?_) | refine z_h (kk := ?_)))
  refine W.fret rfl ⟨?_, rfl⟩
  show Value.bool _ = _
  congr 1
  rw [Bool.eq_iff_iff]
  simpa using hj
theorem equal_c {w : World} {v1 v2 : Value} {xs ys : List Int} (h1 : SlI w v1 xs) (h2 : SlI w v2 ys) (hl1 : xs.length ≤ 9223372036854775807) (hl2 : ys.length ≤ 9223372036854775807) :
    Calls Try.prog 83 #[v1, v2] w (Ret fun r w' => r = .bool (decide (xs = ys)) ∧ Below w.heap.size w w') := by
  obtain ⟨A, c, rfl⟩ := Sl.sl h1
  obtain ⟨A2, c2, rfl⟩ := Sl.sl h2
  refine calls_W (vs := [_, _]) Try.func83 rfl (by kernel_rfl) rfl ?_
  (repeat (first | with_reducible refine W.seq ?_ | with_reducible refine Ops.nil ?_ | with_reducible refine W.region ?_ | refine z_p (kk := ?_) | refine z_a (kk := ?_) | refine z_y (kk := ?_) | refine z_n (kk := ?_) | refine z_u (kk := ?_) | with_reducible refine W.skip ?_ | with_reducible refine W.endb ?_ | with_reducible refine W.block ?_ | refine W.exit rfl ?_ | refine z_l (kk := ?_) | refine z_f (kk := ?_) | refine z_M (kk := ?_) | refine z_m (kk := ?_) | refine z_e (kk := ?_) | refine z_E (kk := ?_) | refine z_d (kk := ?_) | refine z_I (kk := fun _ => ?_) | refine z_J (kk := fun _ => ?_) | refine z_K (kk := fun _ => ?_) | refine z_L (kk := fun _ => ?_) | refine z_T (kk := ?_) | refine z_F (kk := ?_) | refine z_k (kk := fun _ _ _ _ _ => ?_) | refine z_w (kk := fun _ _ => ?_) | refine z_s (kk := fun _ _ _ _ => ?_) | refine z_D (kk := ?_) | refine z_g (kk := ?_) | refine z_h (kk := ?_)))
  by_cases hle : xs.length = ys.length
  · refine W.condF rfl (by first | rfl | assumption | (simp only [bnf] <;> omega) | (simp only [*, bnf]; done) | fail) ?_
    (repeat (first | with_reducible refine W.seq ?_ | with_reducible refine Ops.nil ?_ | with_reducible refine W.region ?_ | refine z_p (kk := ?_) | refine z_a (kk := ?_) | refine z_y (kk := ?_) | refine z_n (kk := ?_) | refine z_u (kk := ?_) | with_reducible refine W.skip ?_ | with_reducible refine W.endb ?_ | with_reducible refine W.block ?_ | refine W.exit rfl ?_ | refine z_l (kk := ?_) | refine z_f (kk := ?_) | refine z_M (kk := ?_) | refine z_m (kk := ?_) | refine z_e (kk := ?_) | refine z_E (kk := ?_) | refine z_d (kk := ?_) | refine z_I (kk := fun _ => ?_) | refine z_J (kk := fun _ => ?_) | refine z_K (kk := fun _ => ?_) | refine z_L (kk := fun _ => ?_) | refine z_T (kk := ?_) | refine z_F (kk := ?_) | refine z_k (kk := fun _ _ _ _ _ => ?_) | refine z_w (kk := fun _ _ => ?_) | refine z_s (kk := fun _ _ _ _ => ?_) | refine z_D (kk := ?_) | refine z_g (kk := ?_) | refine z_h (kk := ?_)))
    refine W.loop (fun m ρ w1 => ∃ i : Nat, m = xs.length - i ∧ i ≤ xs.length ∧ ρ = [(0, .slice A xs.length c), (1, .slice A2 ys.length c2), (12, .int .i64 xs.length), (13, .int .i64 i)] ∧ Below w.heap.size w w1 ∧ ∀ j : Nat, j < i → xs.getD j 0 = ys.getD j 0)
      ⟨_, _, ⟨0, rfl, Nat.zero_le _, rfl, Below.refl _ _, fun j h => by omega⟩, (by repeat (first | exact trivial | refine And.intro rfl ?_))⟩ ?_
    rintro m ρ w1 ⟨i, rfl, hi, rfl, hb1, hn⟩
    (repeat (first | with_reducible refine W.seq ?_ | with_reducible refine Ops.nil ?_ | with_reducible refine W.region ?_ | refine z_p (kk := ?_) | refine z_a (kk := ?_) | refine z_y (kk := ?_) | refine z_n (kk := ?_) | refine z_u (kk := ?_) | with_reducible refine W.skip ?_ | with_reducible refine W.endb ?_ | with_reducible refine W.block ?_ | refine W.exit rfl ?_ | refine z_l (kk := ?_) | refine z_f (kk := ?_) | refine z_M (kk := ?_) | refine z_m (kk := ?_) | refine z_e (kk := ?_) | refine z_E (kk := ?_) | refine z_d (kk := ?_) | refine z_I (kk := fun _ => ?_) | refine z_J (kk := fun _ => ?_) | refine z_K (kk := fun _ => ?_) | refine z_L (kk := fun _ => ?_) | refine z_T (kk := ?_) | refine z_F (kk := ?_) | refine z_k (kk := fun _ _ _ _ _ => ?_) | refine z_w (kk := fun _ _ => ?_) | refine z_s (kk := fun _ _ _ _ => ?_) | refine z_D (kk := ?_) | refine z_g (kk := ?_) | refine z_h (kk := ?_)))
    (first | refine W.condD rfl (fun hc => ?_) (fun hc => ?_) | refine W.condE rfl (fun hc => ?_) (fun hc => ?_) | refine W.condN rfl (fun hc => ?_) (fun hc => ?_) | refine W.cond rfl (fun hc => ?_) (fun hc => ?_))
    · have hil : i < xs.length := by omega
      (repeat (first | with_reducible refine W.seq ?_ | with_reducible refine Ops.nil ?_ | with_reducible refine W.region ?_ | refine z_p (kk := ?_) | refine z_a (kk := ?_) | refine z_y (kk := ?_) | refine z_n (kk := ?_) | refine z_u (kk := ?_) | with_reducible refine W.skip ?_ | with_reducible refine W.endb ?_ | with_reducible refine W.block ?_ | refine W.exit rfl ?_ | refine z_l (kk := ?_) | refine z_f (kk := ?_) | refine z_M (kk := ?_) | refine z_m (kk := ?_) | refine z_e (kk := ?_) | refine z_E (kk := ?_) | refine z_d (kk := ?_) | refine z_I (kk := fun _ => ?_) | refine z_J (kk := fun _ => ?_) | refine z_K (kk := fun _ => ?_) | refine z_L (kk := fun _ => ?_) | refine z_T (kk := ?_) | refine z_F (kk := ?_) | refine z_k (kk := fun _ _ _ _ _ => ?_) | refine z_w (kk := fun _ _ => ?_) | refine z_s (kk := fun _ _ _ _ => ?_) | refine z_D (kk := ?_) | refine z_g (kk := ?_) | refine z_h (kk := ?_)))
      refine W.ordA 99 [(0, 1), (1, 1), (2, 1), (3, 2), (4, 1), (5, 1), (6, 1), (7, 2), (8, 1)] rfl (by kernel_rfl) rfl (by kernel_rfl) (fun _ _ _ h => h) ?_
      (repeat (first | refine x_p (kk := ?_) | refine x_n (kk := ?_) | refine x_a (kk := ?_) | refine x_l (kk := ?_) | refine x_M (kk := ?_) | refine x_m (kk := ?_) | refine x_e (kk := ?_) | refine x_E (kk := ?_) | refine x_T (kk := ?_) | refine x_F (kk := ?_) | refine x_I (kk := fun _ => ?_) | refine x_J (kk := fun _ => ?_) | refine x_K (kk := fun _ => ?_) | refine x_L (kk := fun _ => ?_) | refine x_k (kk := fun _ _ _ _ _ => ?_) | refine x_w (kk := fun _ _ => ?_) | refine x_s (kk := fun _ _ _ _ => ?_) | refine x_t (kk := ?_) | refine x_f (kk := ?_)))
      refine OrdA.nil (fun w4 hb4 => ?_)
      have hb04 := Below.via hb1 hb4
      by_cases e : xs.getD i 0 = ys.getD i 0
      · refine W.condF rfl (by first | rfl | assumption | (simp only [bnf] <;> omega) | (simp only [*, bnf]; done) | fail) ?_
        (repeat (first | with_reducible refine W.seq ?_ | with_reducible refine Ops.nil ?_ | with_reducible refine W.region ?_ | refine z_p (kk := ?_) | refine z_a (kk := ?_) | refine z_y (kk := ?_) | refine z_n (kk := ?_) | refine z_u (kk := ?_) | with_reducible refine W.skip ?_ | with_reducible refine W.endb ?_ | with_reducible refine W.block ?_ | refine W.exit rfl ?_ | refine z_l (kk := ?_) | refine z_f (kk := ?_) | refine z_M (kk := ?_) | refine z_m (kk := ?_) | refine z_e (kk := ?_) | refine z_E (kk := ?_) | refine z_d (kk := ?_) | refine z_I (kk := fun _ => ?_) | refine z_J (kk := fun _ => ?_) | refine z_K (kk := fun _ => ?_) | refine z_L (kk := fun _ => ?_) | refine z_T (kk := ?_) | refine z_F (kk := ?_) | refine z_k (kk := fun _ _ _ _ _ => ?_) | refine z_w (kk := fun _ _ => ?_) | refine z_s (kk := fun _ _ _ _ => ?_) | refine z_D (kk := ?_) | refine z_g (kk := ?_) | refine z_h (kk := ?_)))
        refine W.endl ⟨_, _, ⟨⟨i + 1, rfl, by omega, rfl, hb04, fun j hj => ?_⟩, by omega⟩, (by repeat (first | exact trivial | refine And.intro rfl ?_))⟩
        by_cases ej : j = i
        · subst ej; exact e
        · exact hn j (by omega)
      · refine W.condT rfl (by first | rfl | assumption | (simp only [bnf] <;> omega) | (simp only [*, bnf]; done) | fail) ?_
        (repeat (first | with_reducible refine W.seq ?_ | with_reducible refine Ops.nil ?_ | with_reducible refine W.region ?_ | refine z_p (kk := ?_) | refine z_a (kk := ?_) | refine z_y (kk := ?_) | refine z_n (kk := ?_) | refine z_u (kk := ?_) | with_reducible refine W.skip ?_ | with_reducible refine W.endb ?_ | with_reducible refine W.block ?_ | refine W.exit rfl ?_ | refine z_l (kk := ?_) | refine z_f (kk := ?_) | refine z_M (kk := ?_) | refine z_m (kk := ?_) | refine z_e (kk := ?_) | refine z_E (kk := ?_) | refine z_d (kk := ?_) | refine z_I (kk := fun _ => ?_) | refine z_J (kk := fun _ => ?_) | refine z_K (kk := fun _ => ?_) | refine z_L (kk := fun _ => ?_) | refine z_T (kk := ?_) | refine z_F (kk := ?_) | refine z_k (kk := fun _ _ _ _ _ => ?_) | refine z_w (kk := fun _ _ => ?_) | refine z_s (kk := fun _ _ _ _ => ?_) | refine z_D (kk := ?_) | refine z_g (kk := ?_) | refine z_h (kk := ?_)))
        refine W.fret rfl ⟨?_, hb04⟩
        rw [decide_eq_false]
        · rfl
        · intro h; exact e (by rw [h])
    · have : i = xs.length := by omega
      subst this
      (repeat (first | with_reducible refine W.seq ?_ | with_reducible refine Ops.nil ?_ | with_reducible refine W.region ?_ | refine z_p (kk := ?_) | refine z_a (kk := ?_) | refine z_y (kk := ?_) | refine z_n (kk := ?_) | refine z_u (kk := ?_) | with_reducible refine W.skip ?_ | with_reducible refine W.endb ?_ | with_reducible refine W.block ?_ | refine W.exit rfl ?_ | refine z_l (kk := ?_) | refine z_f (kk := ?_) | refine z_M (kk := ?_) | refine z_m (kk := ?_) | refine z_e (kk := ?_) | refine z_E (kk := ?_) | refine z_d (kk := ?_) | refine z_I (kk := fun _ => ?_) | refine z_J (kk := fun _ => ?_) | refine z_K (kk := fun _ => ?_) | refine z_L (kk := fun _ => ?_) | refine z_T (kk := ?_) | refine z_F (kk := ?_) | refine z_k (kk := fun _ _ _ _ _ => ?_) | refine z_w (kk := fun _ _ => ?_) | refine z_s (kk := fun _ _ _ _ => ?_) | refine z_D (kk := ?_) | refine z_g (kk := ?_) | refine z_h (kk := ?_)))
      refine W.fret rfl ⟨?_, hb1⟩
      rw [decide_eq_true]
      · rfl
      · apply List.ext_getElem hle
        intro j h1 h2
        have := hn j h1
        simpa [List.getD_eq_getElem?_getD, h1, h2] using this
  · refine W.condT rfl (by first | rfl | assumption | (simp only [bnf] <;> omega) | (simp only [*, bnf]; done) | fail) ?_
    (repeat (first | with_reducible refine W.seq ?_ | with_reducible refine Ops.nil ?_ | with_reducible refine W.region ?_ | refine z_p (kk := ?_) | refine z_a (kk := ?_) | refine z_y (kk := ?_) | refine z_n (kk := ?_) | refine z_u (kk := ?_) | with_reducible refine W.skip ?_ | with_reducible refine W.endb ?_ | with_reducible refine W.block ?_ | refine W.exit rfl ?_ | refine z_l (kk := ?_) | refine z_f (kk := ?_) | refine z_M (kk := ?_) | refine z_m (kk := ?_) | refine z_e (kk := ?_) | refine z_E (kk := ?_) | refine z_d (kk := ?_) | refine z_I (kk := fun _ => ?_) | refine z_J (kk := fun _ => ?_) | refine z_K (kk := fun _ => ?_) | refine z_L (kk := fun _ => ?_) | refine z_T (kk := ?_) | refine z_F (kk := ?_) | refine z_k (kk := fun _ _ _ _ _ => ?_) | refine z_w (kk := fun _ _ => ?_) | refine z_s (kk := fun _ _ _ _ => ?_) | refine z_D (kk := ?_) | refine z_g (kk := ?_) | refine z_h (kk := ?_)))
    refine W.fret rfl ⟨?_, Below.refl _ _⟩
    rw [decide_eq_false]
    · rfl
    · intro h; exact hle (by rw [h])
end Go.Proofs.Ytdiljpnfochndaa
/- Values in bounds; and that there are values. -/
namespace Go.Proofs.Ytdiljpnfochndaa.HP
theorem val_bd {l : List Nd} {dep : List Int} (hT : TF l dep) {wf : Int → Int} {vs : List Int} (hv : ValP l dep wf vs) {lo hi : Int} (h : ∀ i : Nat, i < l.length → leafB l i = true → lo ≤ wf i ∧ wf i ≤ hi) : ∀ j : Nat, j < l.length → lo ≤ vs.getD j 0 ∧ vs.getD j 0 ≤ hi := by
  refine tree_ind hT (Q := fun j => lo ≤ vs.getD j 0 ∧ vs.getD j 0 ≤ hi) fun j hj hk => ?_
  have kD : ∀ x ∈ kid l j, lo ≤ rd vs x ∧ rd vs x ≤ hi := fun x hx => by obtain ⟨i, rfl, hi, h⟩ := hk x hx; exact h
  rw [hv.at_ j hj]
  unfold NV
  by_cases hl : leafB l j = true
  · rw [if_pos hl]; exact h j hj hl
  · have hne := leaf_ne hl
    obtain ⟨c, hc⟩ := List.exists_mem_of_ne_nil _ hne
    rw [if_neg hl]
    by_cases he : evB dep j = true
    · rw [if_pos he, maxL_ge hne, maxL_le hne]
      exact ⟨⟨c, hc, (kD c hc).1⟩, fun x hx => (kD x hx).2⟩
    · rw [if_neg he, minL_ge hne, minL_le hne]
      exact ⟨fun x hx => (kD x hx).1, ⟨c, hc, (kD c hc).2⟩⟩
theorem val_ex {l : List Nd} {dep : List Int} (hT : TF l dep) (wf : Int → Int) : ∃ vs, ValP l dep wf vs := by
  have key : ∀ d q : Nat, l.length - q = d → q ≤ l.length → ∃ os : List Int, os.length = l.length ∧ ∀ j : Nat, q ≤ j → j < l.length → os.getD j 0 = NV l dep wf os j := by
    intro d
    induction d with
    | zero => intro q hd hq; exact ⟨List.replicate l.length 0, by simp, fun j h1 h2 => by omega⟩
    | succ d ih =>
      intro q hd hq
      obtain ⟨os, h1, h2⟩ := ih (q + 1) (by omega) (by omega)
      exact ⟨os.set q (NV l dep wf os q), by simp [h1], val_set hT (by omega) h1 rfl h2⟩
  obtain ⟨os, h1, h2⟩ := key _ 0 rfl (Nat.zero_le _)
  exact ⟨os, h1, fun j hj => h2 j (Nat.zero_le _) hj⟩
theorem wor_bd {l : List Nd} {dep : List Int} (hT : TF l dep) {vs : List Int} (hv : ValP l dep (wor l) vs) : -100 ≤ vs.getD 0 0 ∧ vs.getD 0 0 ≤ 100 :=
  val_bd hT hv (fun i hi _ => ⟨(hT.wor i hi).1, (hT.wor i hi).2.1⟩) 0 (by have := hT.n1; omega)
end Go.Proofs.Ytdiljpnfochndaa.HP
/- The line of best moves. -/
namespace Go.Proofs.Ytdiljpnfochndaa.HP
def bestM' (vs : List Int) (x : Int) : List Int → Int
  | [] => -1
  | c :: r => if rd vs c = x then c else bestM' vs x r
theorem bestM_mem {vs : List Int} {x : Int} : ∀ {cs : List Int}, (∃ c ∈ cs, rd vs c = x) → bestM' vs x cs ∈ cs ∧ rd vs (bestM' vs x cs) = x
  | [], ⟨c, hc, _⟩ => by simp at hc
  | c :: r, ⟨d, hd, he⟩ => by
    simp only [bestM']
    split
    · rename_i h; exact ⟨by simp, h⟩
    · rename_i h
      have := bestM_mem (cs := r) ⟨d, by rcases List.mem_cons.1 hd with rfl | hd; exact absurd he h; exact hd, he⟩
      exact ⟨by simp [this.1], this.2⟩
theorem maxL_mem {cs : List Int} {g : Int → Int} (h : cs ≠ []) : ∃ c ∈ cs, g c = maxL (cs.map g) := by
  obtain ⟨c, hc, h1⟩ := (maxL_ge (g := g) (b := maxL (cs.map g)) h).1 (Int.le_refl _)
  exact ⟨c, hc, Int.le_antisymm ((maxL_le h).1 (Int.le_refl _) c hc) h1⟩
theorem minL_mem {cs : List Int} {g : Int → Int} (h : cs ≠ []) : ∃ c ∈ cs, g c = minL (cs.map g) := by
  obtain ⟨c, hc, h1⟩ := (minL_le (g := g) (b := minL (cs.map g)) h).1 (Int.le_refl _)
  exact ⟨c, hc, Int.le_antisymm h1 ((minL_ge h).1 (Int.le_refl _) c hc)⟩
theorem val_att {l : List Nd} {dep : List Int} {wf : Int → Int} {vs : List Int} (hv : ValP l dep wf vs) {i : Nat} (hi : i < l.length) (hl : leafB l i = false) : ∃ c ∈ kid l i, rd vs c = rd vs i := by
  have hne : kid l i ≠ [] := leaf_ne (by rw [hl]; simp)
  have h := hv.at_ i hi
  unfold NV at h
  rw [hl] at h
  simp only [Bool.false_eq_true, if_false] at h
  show ∃ c ∈ kid l i, rd vs c = vs.getD (i : Int).toNat 0
  rw [Int.toNat_natCast, h]
  split
  · exact maxL_mem hne
  · exact minL_mem hne
/-- The k-th node of the line. -/
def lineN (l : List Nd) (vs : List Int) : Nat → Int
  | 0 => 0
  | k + 1 => bestM' vs (rd vs (lineN l vs k)) (kid l (lineN l vs k))
def LineS (l : List Nd) (vs out : List Int) : Prop := ∃ k, out = (List.range (k + 1)).map (lineN l vs) ∧ (∀ j, j < k → leafB l (lineN l vs j) = false) ∧ leafB l (lineN l vs k) = true
theorem LineS.uniq {l : List Nd} {vs a b : List Int} (ha : LineS l vs a) (hb : LineS l vs b) : a = b := by
  obtain ⟨k, rfl, h1, h2⟩ := ha
  obtain ⟨m, rfl, h3, h4⟩ := hb
  rcases Nat.lt_trichotomy k m with h | h | h
  · rw [h3 k h] at h2; cases h2
  · rw [h]
  · rw [h1 m h] at h4; cases h4
theorem line_step {l : List Nd} {dep : List Int} {wf : Int → Int} {vs : List Int} (hT : TF l dep) (hv : ValP l dep wf vs) {k : Nat} {i : Nat} (hk : lineN l vs k = i) (hi : i < l.length) (hl : leafB l i = false) :
    ∃ j : Nat, lineN l vs (k + 1) = j ∧ i < j ∧ j < l.length ∧ vs.getD j 0 = vs.getD i 0 := by
  have h := bestM_mem (val_att hv hi hl)
  obtain ⟨h1, h2⟩ := mem_kid hT hi h.1
  refine ⟨(bestM' vs (rd vs i) (kid l i)).toNat, ?_, by omega, by omega, ?_⟩
  · show bestM' vs (rd vs (lineN l vs k)) (kid l (lineN l vs k)) = _
    rw [hk]; omega
  · have h3 := h.2
    simp only [rd, Int.toNat_natCast] at h3 ⊢
    exact h3
theorem range_snoc (f : Nat → Int) (k : Nat) : (List.range (k + 1 + 1)).map f = (List.range (k + 1)).map f ++ [f (k + 1)] := by
  rw [List.range_succ, List.map_append]; rfl
end Go.Proofs.Ytdiljpnfochndaa.HP
/- Plans. -/
namespace Go.Proofs.Ytdiljpnfochndaa.HP
/-- Before node i: which nodes are reached, and the plan so far. -/
structure PI (l : List Nd) (dep : List Int) (ch : Int → Int) (i : Nat) (f : Int → Bool) (out : List Int) : Prop where
  r0 : f 0 = true
  step : ∀ a b : Nat, a < i → b < (kid l a).length → f (k_ l a b) = (f a && (!evB dep a || decide (k_ l a b = ch a)))
  only : ∀ c : Int, f c = true → c = 0 ∨ ∃ a b : Nat, a < i ∧ b < (kid l a).length ∧ k_ l a b = c
  len : out.length = l.length
  done : ∀ j : Nat, j < i → out.getD j 0 = if f j && evB dep j && !leafB l j then ch j else -1
  rest : ∀ j : Nat, i ≤ j → j < l.length → out.getD j 0 = -1
def PlanS (l : List Nd) (dep : List Int) (ch : Int → Int) (f : Int → Bool) (out : List Int) : Prop := PI l dep ch l.length f out
theorem PI.start (l : List Nd) (dep : List Int) (ch : Int → Int) : PI l dep ch 0 (fun k => k == 0) (List.replicate l.length (-1)) :=
  ⟨rfl, fun a b h => by omega, fun c h => .inl (by simpa using h), by simp, fun j h => by omega, fun j _ h => by simp [List.getD_eq_getElem?_getD, h]⟩
theorem kid_mem_at {l : List Nd} {i : Nat} {c : Int} (h : c ∈ kid l i) : ∃ b : Nat, b < (kid l i).length ∧ k_ l i b = c := by
  obtain ⟨b, hb, e⟩ := kid_at h
  exact ⟨b, hb, e⟩
/-- A kid of node i is not reached before. -/
theorem PI.fresh {l : List Nd} {dep : List Int} {ch : Int → Int} {i : Nat} {f : Int → Bool} {out : List Int} (h : PI l dep ch i f out) (hT : TF l dep) (hi : i < l.length) {b : Nat} (hb : b < (kid l i).length) : f (k_ l i b) = false := by
  have hk := hT.kin i b hi hb
  cases hf : f (k_ l i b) with
  | false => rfl
  | true =>
    rcases h.only _ hf with e | ⟨a, b', ha, hb', e⟩
    · omega
    · have := (hT.inj a b' i b (by omega) hb' hi hb e).1
      omega
theorem PI.skip {l : List Nd} {dep : List Int} {ch : Int → Int} {i : Nat} {f : Int → Bool} {out : List Int} (h : PI l dep ch i f out) (hT : TF l dep) (hi : i < l.length) (hs : f i = false ∨ leafB l i = true) : PI l dep ch (i + 1) f out := by
  refine ⟨h.r0, fun a b ha hb => ?_, fun c hc => ?_, h.len, fun j hj => ?_, fun j h1 h2 => h.rest j (by omega) h2⟩
  · by_cases e : a = i
    · subst e
      rw [h.fresh hT hi hb]
      rcases hs with hs | hs
      · rw [hs]; rfl
      · have : kid l a = [] := by unfold leafB at hs; simpa using hs
        rw [this] at hb; simp at hb
    · exact h.step a b (by omega) hb
  · rcases h.only c hc with e | ⟨a, b, ha, hb, e⟩
    · exact .inl e
    · exact .inr ⟨a, b, by omega, hb, e⟩
  · by_cases e : j = i
    · subst e
      rw [h.rest j (Nat.le_refl _) hi, if_neg]
      rcases hs with hs | hs <;> simp [hs]
    · exact h.done j (by omega)
theorem PI.max {l : List Nd} {dep : List Int} {ch : Int → Int} {i : Nat} {f : Int → Bool} {out : List Int} (h : PI l dep ch i f out) (hT : TF l dep) (hi : i < l.length) (hf : f i = true) (hl : leafB l i = false) (he : evB dep i = true) (hc : ch i ∈ kid l i) :
    PI l dep ch (i + 1) (fun k => f k || k == ch i) (out.set i (ch i)) := by
  obtain ⟨b0, hb0, e0⟩ := kid_mem_at hc
  have hk0 := hT.kin i b0 hi hb0
  have hol := h.len
  have hne : ∀ j : Nat, j ≤ i → ((j : Int) == ch i) = false := fun j hj => by simp; omega
  have hfr : ∀ {b : Nat}, b < (kid l i).length → f (k_ l i b) = false := fun hb => h.fresh hT hi hb
  refine ⟨by simp [h.r0], fun a b ha hb => ?_, fun c hc' => ?_, by simp [hol], fun j hj => ?_, fun j h1 h2 => ?_⟩
  · by_cases e : a = i
    · subst e
      rw [hfr hb, hne a (Nat.le_refl _), hf, he]
      simp
      rfl
    · have hka := hT.kin a b (by omega) hb
      have hk1 : (k_ l a b == ch i) = false := by
        simp only [beq_eq_false_iff_ne]
        intro e2
        exact e (hT.inj a b i b0 (by omega) hb hi hb0 (by omega)).1
      rw [hk1, hne a (by omega), Bool.or_false, Bool.or_false]
      exact h.step a b (by omega) hb
  · simp only [Bool.or_eq_true, beq_iff_eq] at hc'
    rcases hc' with hc' | hc'
    · rcases h.only c hc' with e | ⟨a, b, ha, hb, e⟩
      · exact .inl e
      · exact .inr ⟨a, b, by omega, hb, e⟩
    · exact .inr ⟨i, b0, by omega, hb0, by rw [e0, hc']⟩
  · rw [hne j (by omega), Bool.or_false]
    by_cases e : i = j
    · subst e
      rw [getD_set_eq (by omega), hf, he, hl]; rfl
    · rw [getD_set_ne e]; exact h.done j (by omega)
  · rw [getD_set_ne (by omega)]; exact h.rest j (by omega) h2
theorem PI.min {l : List Nd} {dep : List Int} {ch : Int → Int} {i : Nat} {f g : Int → Bool} {out : List Int} (h : PI l dep ch i f out) (hT : TF l dep) (hi : i < l.length) (hf : f i = true) (he : evB dep i = false) (hg : ∀ k, g k = (f k || decide (∃ b : Nat, b < (kid l i).length ∧ k_ l i b = k))) : PI l dep ch (i + 1) g out := by
  have hne : ∀ j : Nat, j ≤ i → ¬ ∃ b : Nat, b < (kid l i).length ∧ k_ l i b = j := fun j hj ⟨b, hb, e⟩ => by have := hT.kin i b hi hb; omega
  have hgj : ∀ j : Nat, j ≤ i → g j = f j := fun j hj => by rw [hg, decide_eq_false (hne j hj), Bool.or_false]
  refine ⟨by have := hgj 0 (by omega); simpa [h.r0] using this, fun a b ha hb => ?_, fun c hc' => ?_, h.len, fun j hj => ?_, fun j h1 h2 => h.rest j (by omega) h2⟩
  · rw [hgj a (by omega)]
    by_cases e : a = i
    · subst e
      rw [hg, decide_eq_true ⟨b, hb, rfl⟩, hf, he]
      simp
    · have hk1 : ¬ ∃ b' : Nat, b' < (kid l i).length ∧ k_ l i b' = k_ l a b := fun ⟨b', hb', e2⟩ => e (hT.inj i b' a b hi hb' (by omega) hb e2).1.symm
      rw [hg, decide_eq_false hk1, Bool.or_false]
      exact h.step a b (by omega) hb
  · rw [hg] at hc'
    simp only [Bool.or_eq_true, decide_eq_true_eq] at hc'
    rcases hc' with hc' | ⟨b, hb, e⟩
    · rcases h.only c hc' with e | ⟨a, b, ha, hb, e⟩
      · exact .inl e
      · exact .inr ⟨a, b, by omega, hb, e⟩
    · exact .inr ⟨i, b, by omega, hb, e⟩
  · rw [hgj j (by omega)]
    by_cases e : j = i
    · subst e
      rw [h.rest j (Nat.le_refl _) hi, if_neg (by simp [he])]
    · exact h.done j (by omega)
/-- Reached nodes are determined. -/
theorem PlanS.reach {l : List Nd} {dep : List Int} {ch : Int → Int} {f g : Int → Bool} {out out' : List Int} (hT : TF l dep) (h : PlanS l dep ch f out) (h' : PlanS l dep ch g out') : ∀ i : Nat, i < l.length → f i = g i := by
  intro i
  induction i using Nat.strongRecOn with
  | _ i ih =>
    intro hi
    by_cases e : i = 0
    · subst e
      have h1 := h.r0
      have h2 := h'.r0
      rw [show ((0 : Nat) : Int) = 0 from rfl, h1, h2]
    · obtain ⟨a, b, ha, hb, hk⟩ := hT.cov i (by omega) hi
      have hka := hT.kin a b ha hb
      have h1 := h.step a b ha hb
      have h2 := h'.step a b ha hb
      rw [hk] at h1 h2
      rw [h1, h2, ih a (by omega) ha]
theorem PlanS.uniq {l : List Nd} {dep : List Int} {ch : Int → Int} {f g : Int → Bool} {out out' : List Int} (hT : TF l dep) (h : PlanS l dep ch f out) (h' : PlanS l dep ch g out') : out = out' := by
  apply List.ext_getElem (by rw [h.len, h'.len])
  intro j h1 h2
  have hj : j < l.length := by rw [← h.len]; exact h1
  have e1 := h.done j hj
  have e2 := h'.done j hj
  rw [h.reach hT h' j hj] at e1
  rw [← e2] at e1
  simpa [List.getD_eq_getElem?_getD, h1, h2] using e1
end Go.Proofs.Ytdiljpnfochndaa.HP
namespace Go.Proofs.Ytdiljpnfochndaa
open Go Go.RowKit Go.Proofs.Ytdiljpnfochndaa.VW
open Go.Proofs.Ytdiljpnfochndaa.HP (Nd kid wor leafB rd evB gameOf gameOf_TF TF TK ValP k_ PI PlanS)
attribute [local irreducible] W Ops OrdA VW.Ord OrdX Wi OpsI
def chk (l : List Nd) (xs : List Int) (i : Int) : Int := if rd xs i ∈ kid l i then rd xs i else (kid l i).getD 0 0
theorem check1_c {wB w : World} {b1 b2 b3 : Nat} {tv xv : Value} {l : List Nd} {dep xs : List Int} {q : Bool} (hT : TF l dep) (h1 : Blk wB b1 #[tv] 22) (hTr : TreeM wB tv l) (h2 : Blk wB b2 #[xv] 24) (hX : SlI wB xv xs) (hxl : xs.length = l.length) (hb0 : Below wB.heap.size wB w) (hb3 : wB.heap.size ≤ b3) (h3 : Blk w b3 #[.bool q] 4)
    (i : Nat) (hi : i < l.length) (hlf : leafB l i = false) :
    Calls Try.prog 81 #[.int .i64 i, .pointer (some ⟨b1, 0, none⟩), .pointer (some ⟨b2, 0, none⟩), .pointer (some ⟨b3, 0, none⟩)] w (Ret fun v w' => v = .int .i64 (chk l xs i) ∧ Below wB.heap.size wB w' ∧ Kp (fun k => k = b3) w w' ∧ Blk w' b3 #[.bool (q && decide (rd xs i ∈ kid l i))] 4) := by
  obtain ⟨At, ct, rfl⟩ := hTr.sl
  obtain ⟨Ax, cx, rfl⟩ := Sl.sl hX
  have hkl := hT.klen i hi
  have hn60 := hT.n60
  have hk0 : 0 < (kid l i).length := by unfold leafB at hlf; cases hk : kid l i with | nil => rw [hk] at hlf; simp at hlf | cons _ _ => simp
  have hrd : rd xs i = xs.getD i 0 := rfl
  refine calls_W (vs := [_, _, _, _]) Try.func81 rfl (by kernel_rfl) rfl ?_
  (repeat (first | with_reducible refine W.seq ?_ | with_reducible refine Ops.nil ?_ | with_reducible refine W.region ?_ | refine z_p (kk := ?_) | refine z_a (kk := ?_) | refine z_y (kk := ?_) | refine z_n (kk := ?_) | refine z_u (kk := ?_) | with_reducible refine W.skip ?_ | with_reducible refine W.endb ?_ | with_reducible refine W.block ?_ | refine W.exit rfl ?_ | refine z_l (kk := ?_) | refine z_f (kk := ?_) | refine z_M (kk := ?_) | refine z_m (kk := ?_) | refine z_e (kk := ?_) | refine z_E (kk := ?_) | refine z_d (kk := ?_) | refine z_I (kk := fun _ => ?_) | refine z_J (kk := fun _ => ?_) | refine z_K (kk := fun _ => ?_) | refine z_L (kk := fun _ => ?_) | refine z_T (kk := ?_) | refine z_F (kk := ?_) | refine z_k (kk := fun _ _ _ _ _ => ?_) | refine z_w (kk := fun _ _ => ?_) | refine z_s (kk := fun _ _ _ _ => ?_) | refine z_D (kk := ?_) | refine z_g (kk := ?_) | refine z_h (kk := ?_)))
  refine W.ordA 99 [(0, 2), (1, 1), (2, 1), (3, 1), (4, 2), (5, 2), (6, 1), (7, 1), (8, 2), (9, 2), (10, 1)] rfl (by kernel_rfl) rfl (by kernel_rfl) (fun _ _ _ h => h) ?_
  (repeat (first | refine x_p (kk := ?_) | refine x_n (kk := ?_) | refine x_a (kk := ?_) | refine x_l (kk := ?_) | refine x_M (kk := ?_) | refine x_m (kk := ?_) | refine x_e (kk := ?_) | refine x_E (kk := ?_) | refine x_T (kk := ?_) | refine x_F (kk := ?_) | refine x_I (kk := fun _ => ?_) | refine x_J (kk := fun _ => ?_) | refine x_K (kk := fun _ => ?_) | refine x_L (kk := fun _ => ?_) | refine x_k (kk := fun _ _ _ _ _ => ?_) | refine x_w (kk := fun _ _ => ?_) | refine x_s (kk := fun _ _ _ _ => ?_) | refine x_D (kk := ?_) | refine x_t (kk := ?_) | refine x_f (kk := ?_)))
  refine OrdA.call rfl rfl rfl rfl rfl rfl rfl (fun w' hw' => (contains_c (xs := kid l i) (Sl.below (by assumption) (Below.via hb0 hw')) (by omega)).mono fun e w'' ⟨v, he, hv⟩ => ⟨v, he, hv.1, by rw [hv.2]; exact hw'⟩) ?_
  (repeat (first | refine x_p (kk := ?_) | refine x_n (kk := ?_) | refine x_a (kk := ?_) | refine x_l (kk := ?_) | refine x_M (kk := ?_) | refine x_m (kk := ?_) | refine x_e (kk := ?_) | refine x_E (kk := ?_) | refine x_T (kk := ?_) | refine x_F (kk := ?_) | refine x_I (kk := fun _ => ?_) | refine x_J (kk := fun _ => ?_) | refine x_K (kk := fun _ => ?_) | refine x_L (kk := fun _ => ?_) | refine x_k (kk := fun _ _ _ _ _ => ?_) | refine x_w (kk := fun _ _ => ?_) | refine x_s (kk := fun _ _ _ _ => ?_) | refine x_t (kk := ?_) | refine x_f (kk := ?_)))
  refine OrdA.nil (fun w4 hb4 => ?_)
  have h34 := h3.kp (Kp.of_below (S := fun _ => False) hb4) (fun e => e)
  have hb04 := Below.via hb0 hb4
  rw [hrd]
  by_cases hm : xs.getD i 0 ∈ kid l i
  · rw [decide_eq_true hm]
    have hc : chk l xs i = xs.getD i 0 := by unfold chk; rw [hrd, if_pos hm]
    refine W.condF rfl rfl ?_
    (repeat (first | with_reducible refine W.seq ?_ | with_reducible refine Ops.nil ?_ | with_reducible refine W.region ?_ | refine z_p (kk := ?_) | refine z_a (kk := ?_) | refine z_y (kk := ?_) | refine z_n (kk := ?_) | refine z_u (kk := ?_) | with_reducible refine W.skip ?_ | with_reducible refine W.endb ?_ | with_reducible refine W.block ?_ | refine W.exit rfl ?_ | refine z_l (kk := ?_) | refine z_f (kk := ?_) | refine z_M (kk := ?_) | refine z_m (kk := ?_) | refine z_e (kk := ?_) | refine z_E (kk := ?_) | refine z_d (kk := ?_) | refine z_I (kk := fun _ => ?_) | refine z_J (kk := fun _ => ?_) | refine z_K (kk := fun _ => ?_) | refine z_L (kk := fun _ => ?_) | refine z_T (kk := ?_) | refine z_F (kk := ?_) | refine z_k (kk := fun _ _ _ _ _ => ?_) | refine z_w (kk := fun _ _ => ?_) | refine z_s (kk := fun _ _ _ _ => ?_) | refine z_D (kk := ?_) | refine z_g (kk := ?_) | refine z_h (kk := ?_)))
    exact W.fret rfl ⟨by rw [hc]; rfl, hb04, Kp.of_below hb4, by simpa using h34⟩
  · rw [decide_eq_false hm]
    have hc : chk l xs i = (kid l i).getD 0 0 := by unfold chk; rw [hrd, if_neg hm]
    refine W.condT rfl rfl ?_
    (repeat (first | with_reducible refine W.seq ?_ | with_reducible refine Ops.nil ?_ | with_reducible refine W.region ?_ | refine z_p (kk := ?_) | refine z_a (kk := ?_) | refine z_y (kk := ?_) | refine z_n (kk := ?_) | refine z_u (kk := ?_) | with_reducible refine W.skip ?_ | with_reducible refine W.endb ?_ | with_reducible refine W.block ?_ | refine W.exit rfl ?_ | refine z_l (kk := ?_) | refine z_f (kk := ?_) | refine z_M (kk := ?_) | refine z_m (kk := ?_) | refine z_e (kk := ?_) | refine z_E (kk := ?_) | refine z_d (kk := ?_) | refine z_I (kk := fun _ => ?_) | refine z_J (kk := fun _ => ?_) | refine z_K (kk := fun _ => ?_) | refine z_L (kk := fun _ => ?_) | refine z_T (kk := ?_) | refine z_F (kk := ?_) | refine z_k (kk := fun _ _ _ _ _ => ?_) | refine z_w (kk := fun _ _ => ?_) | refine z_s (kk := fun _ _ _ _ => ?_) | refine z_D (kk := ?_) | refine z_g (kk := ?_) | refine z_h (kk := ?_)))
    refine Ops.st rfl rfl rfl rfl rfl rfl rfl h34 (by simp) (fun w5 hu => ?_)
    have hb5 : Kp (fun k => k = b3) w w5 := ((Kp.of_below (S := fun k => k = b3) hb4).trans hu.kp).mono (by intro k _ h; rcases h with h | h <;> exact h)
    have hb05 : Below wB.heap.size wB w5 := Below.put hb04 hu.kp (fun k hk => by omega)
    refine Ops.nil ?_
    (repeat (first | with_reducible refine W.seq ?_ | with_reducible refine Ops.nil ?_ | with_reducible refine W.region ?_ | refine z_p (kk := ?_) | refine z_a (kk := ?_) | refine z_y (kk := ?_) | refine z_n (kk := ?_) | refine z_u (kk := ?_) | with_reducible refine W.skip ?_ | with_reducible refine W.endb ?_ | with_reducible refine W.block ?_ | refine W.exit rfl ?_ | refine z_l (kk := ?_) | refine z_f (kk := ?_) | refine z_M (kk := ?_) | refine z_m (kk := ?_) | refine z_e (kk := ?_) | refine z_E (kk := ?_) | refine z_d (kk := ?_) | refine z_I (kk := fun _ => ?_) | refine z_J (kk := fun _ => ?_) | refine z_K (kk := fun _ => ?_) | refine z_L (kk := fun _ => ?_) | refine z_T (kk := ?_) | refine z_F (kk := ?_) | refine z_k (kk := fun _ _ _ _ _ => ?_) | refine z_w (kk := fun _ _ => ?_) | refine z_s (kk := fun _ _ _ _ => ?_) | refine z_D (kk := ?_) | refine z_g (kk := ?_) | refine z_h (kk := ?_)))
    exact W.fret rfl ⟨by rw [hc]; rfl, hb05, hb5, by simpa using hu.blk⟩
end Go.Proofs.Ytdiljpnfochndaa
namespace Go.Proofs.Ytdiljpnfochndaa
open Go Go.RowKit Go.Proofs.Ytdiljpnfochndaa.VW
open Go.Proofs.Ytdiljpnfochndaa.HP (Nd kid wor leafB)
attribute [local irreducible] W Ops OrdA VW.Ord OrdX
theorem sl_kp' {α : Type} {enc : α → Value} {z : α} {w w' : World} {v : Value} {xs : List α} {S : Nat → Prop} (h : Sl enc z w v xs) (k : Kp S w w') (hs : 0 < xs.length → ∀ i, v.ownBlock = some i → ¬ S i) : Sl enc z w' v xs := by
  by_cases hp : 0 < xs.length
  · exact h.kp k (hs hp)
  · obtain ⟨h1, A, c, e, _⟩ := h
    exact ⟨h1, A, c, e, fun h => absurd h hp⟩
/-! ### Trees of the call's own -/
def flat : List Value → List Nd → List Value
  | c :: cs, x :: xs => c :: .int .i64 x.2 :: flat cs xs
  | _, _ => []
theorem flat_snoc : ∀ (cs : List Value) (xs : List Nd) (c : Value) (x : Nd), cs.length = xs.length → flat (cs ++ [c]) (xs ++ [x]) = flat cs xs ++ [c, .int .i64 x.2]
  | [], [], _, _, _ => rfl
  | a :: cs, y :: xs, c, x, h => by
    simp only [List.cons_append, flat]
    rw [flat_snoc cs xs c x (by simpa using h)]
  | [], _ :: _, _, _, h => by simp at h
  | _ :: _, [], _, _, h => by simp at h
theorem flat_at : ∀ (cs : List Value) (xs : List Nd) (j : Nat), cs.length = xs.length → j < xs.length → (flat cs xs).getD (j * 2) undef = cs.getD j undef ∧ (flat cs xs).getD (j * 2 + 1) undef = .int .i64 (xs.getD j ([], 0)).2
  | [], [], _, _, h => by simp at h
  | a :: cs, y :: xs, 0, h, _ => by simp [flat]
  | a :: cs, y :: xs, j + 1, h, hj => by
    have := flat_at cs xs j (by simpa using h) (by simpa using hj)
    rw [show (j + 1) * 2 = j * 2 + 1 + 1 by omega]
    simp only [flat, List.getD_cons_succ]
    exact this
  | [], _ :: _, _, h, _ => by simp at h
  | _ :: _, [], _, h, _ => by simp at h
structure TO (w0 w : World) (ov : Value) (tr : List Nd) (cvs : List Value) : Prop where
  bel : Below w0.heap.size w0 w
  ge : ∀ k, ov.ownBlock = some k → w0.heap.size ≤ k
  len : cvs.length = tr.length
  row : w.ownsRow 0 47 2 ov tr.length (flat cvs tr)
  kids : ∀ j, j < tr.length → SlI w (cvs.getD j undef) (tr.getD j ([], 0)).1 ∧ (0 < (tr.getD j ([], 0)).1.length → ∀ i, (cvs.getD j undef).ownBlock = some i → ov.ownBlock ≠ some i)
theorem TO.nil {w0 w : World} (h : Below w0.heap.size w0 w) : TO w0 w (.slice none 0 0) [] [] := ⟨h, fun k hk => by simp [Value.ownBlock] at hk, rfl, World.ownsRow_nil w 0 47 2, fun j hj => by simp at hj⟩
theorem TO.below {w0 w w' : World} {ov : Value} {tr : List Nd} {cvs : List Value} (h : TO w0 w ov tr cvs) (k : Below w.heap.size w w') : TO w0 w' ov tr cvs :=
  ⟨Below.via h.bel k, h.ge, h.len, own_kp h.row (Kp.of_below (S := fun _ => False) k) (fun _ _ e => e), fun j hj => ⟨Sl.below (h.kids j hj).1 k, (h.kids j hj).2⟩⟩
theorem TO.push {w0 w w' : World} {ov ov' cv : Value} {tr : List Nd} {cvs : List Value} {xs : List Int} {x : Int} (h : TO w0 w ov tr cvs) (hk : SlI w cv xs) (hne : 0 < xs.length → ∀ i, cv.ownBlock = some i → ov.ownBlock ≠ some i)
    (hrow : w'.ownsRow 0 47 2 ov' (tr.length + 1) (flat cvs tr ++ [cv, .int .i64 x])) (k : Kp (fun i => ov.ownBlock = some i) w w') (hn : ∀ i, ov'.ownBlock = some i → ov.ownBlock = some i ∨ w.heap.size ≤ i) : TO w0 w' ov' (tr ++ [(xs, x)]) (cvs ++ [cv]) := by
  have hl := h.len
  refine ⟨Below.put h.bel k (fun i hi => h.ge i hi), fun i hi => ?_, by simp [hl], ?_, fun j hj => ?_⟩
  · rcases hn i hi with e | e
    · exact h.ge i e
    · have := h.bel.size; omega
  · rw [flat_snoc _ _ _ _ hl, List.length_append, List.length_singleton]
    exact hrow
  · have hgen : ∀ (v : Value) (ys : List Int), SlI w v ys → (0 < ys.length → ∀ i, v.ownBlock = some i → ov.ownBlock ≠ some i) → SlI w' v ys ∧ (0 < ys.length → ∀ i, v.ownBlock = some i → ov'.ownBlock ≠ some i) := fun v ys hv hs => by
      refine ⟨sl_kp' hv k (fun hp i hi e => hs hp i hi e), fun hp i hi e => ?_⟩
      rcases hn i e with e2 | e2
      · exact hs hp i hi e2
      · have := Sl.lt hv hp hi; omega
    rw [List.length_append, List.length_singleton] at hj
    by_cases e : j = tr.length
    · subst e
      rw [app_last hl.symm, app_last rfl]
      exact hgen cv xs hk hne
    · rw [app_getD (by omega), app_getD (by omega)]
      exact hgen _ _ (h.kids j (by omega)).1 (h.kids j (by omega)).2
theorem TO.treeM {w0 w : World} {ov : Value} {tr : List Nd} {cvs : List Value} (h : TO w0 w ov tr cvs) : TreeM w ov tr := by
  by_cases hp : 0 < tr.length
  · obtain ⟨g, cap, rfl, hc⟩ := own_at h.row hp
    refine ⟨some ⟨g, 0, none⟩, cap, cvs, rfl, fun _ => ⟨_, rfl, fun j hj => ?_⟩, fun j hj => (h.kids j hj).1⟩
    have hf := flat_at cvs tr j h.len hj
    rw [add_lit, add_lit, Nat.zero_add]
    exact ⟨by rw [hc _ (by omega), hf.1], by rw [hc _ (by omega), hf.2]⟩
  · have h0 : tr = [] := List.eq_nil_of_length_eq_zero (by omega)
    subst h0
    rcases h.row.2 with ⟨h1, _⟩ | ⟨g, cap, cur, h1, _⟩
    · exact ⟨none, 0, cvs, h1, fun h => by simp at h, fun j hj => by simp at hj⟩
    · exact ⟨_, cap, cvs, h1, fun h => by simp at h, fun j hj => by simp at hj⟩
/-! ### Arguments -/
/-- A tree that comes in. -/
def ArgT (w : World) (v : Value) (l : List Nd) : Prop :=
  TreeM w v l ∧ l.length ≤ 9223372036854775807 ∧ ∀ i : Int, 0 ≤ i → i < l.length → ∃ a c A' c', v = .slice (some a) l.length c ∧ SlI w (.slice A' (kid l i).length c') (kid l i) ∧ (kid l i).length ≤ c' ∧
    (∀ w', Below w.heap.size w w' → w'.cell? (a.add (i.toNat * 2)) = some (.slice A' (kid l i).length c') ∧ w'.cell? ((a.add (i.toNat * 2)).add 1) = some (.int .i64 (wor l i)))
def Arg (w : World) (v : Value) (xs : List Int) : Prop := SlI w v xs ∧ ∃ A c, v = .slice A xs.length c ∧ xs.length ≤ c
theorem sl_take {α : Type} {enc : α → Value} {z : α} {w : World} {A : Option Addr} {m c : Nat} {xs : List α} (h : Sl enc z w (.slice A m c) xs) (q : Nat) (hq : q ≤ xs.length) : Sl enc z w (.slice A q c) (xs.take q) := by
  obtain ⟨h1, A', c', e, h2⟩ := h
  cases e
  have hl : (xs.take q).length = q := by rw [List.length_take]; omega
  refine ⟨by omega, A, c, by rw [hl], fun hp => ?_⟩
  obtain ⟨a, rfl, hc⟩ := h2 (by omega)
  refine ⟨a, rfl, fun j hj => ?_⟩
  rw [hc j (by omega)]
  simp [List.getD_eq_getElem?_getD, List.getElem?_take, show j < q by omega]
theorem list_c {w : World} {v : Value} {xs : List Int} (h : Arg w v xs) : Calls Try.prog 29 #[v] w (Ret fun r w' => OI 3 (Value.int .i64) w w' r (xs.take 61)) := by
  obtain ⟨hs, A, c, rfl, hc⟩ := h
  have hxl := Sl.len hs
  have hmin : min (xs.length : Int) 61 = ((min xs.length 61 : Nat) : Int) := by omega
  have htk : xs.take (min xs.length 61) = xs.take 61 := by
    rcases Nat.le_total xs.length 61 with h | h
    · rw [Nat.min_eq_left h, List.take_of_length_le (Nat.le_refl _), List.take_of_length_le h]
    · rw [Nat.min_eq_right h]
  refine calls_W (vs := [_]) Try.func29 rfl (by kernel_rfl) rfl ?_
  (repeat (first | with_reducible refine W.seq ?_ | with_reducible refine Ops.nil ?_ | with_reducible refine W.region ?_ | refine z_p (kk := ?_) | refine z_a (kk := ?_) | refine z_y (kk := ?_) | refine z_n (kk := ?_) | refine z_u (kk := ?_) | with_reducible refine W.skip ?_ | with_reducible refine W.endb ?_ | with_reducible refine W.block ?_ | refine W.exit rfl ?_ | refine z_l (kk := ?_) | refine z_f (kk := ?_) | refine z_M (kk := ?_) | refine z_m (kk := ?_) | refine z_e (kk := ?_) | refine z_E (kk := ?_) | refine z_d (kk := ?_) | refine z_I (kk := fun _ => ?_) | refine z_J (kk := fun _ => ?_) | refine z_K (kk := fun _ => ?_) | refine z_L (kk := fun _ => ?_) | refine z_T (kk := ?_) | refine z_F (kk := ?_) | refine z_k (kk := fun _ _ _ _ _ => ?_) | refine z_w (kk := fun _ _ => ?_) | refine z_s (kk := fun _ _ _ _ => ?_) | refine z_g (kk := ?_) | refine z_h (kk := ?_)))
  rw [hmin]
  refine Ops.slH rfl rfl rfl rfl rfl rfl rfl (by omega) (by omega) ?_
  rw [Int.toNat_natCast]
  refine Ops.appO (enc := Value.int .i64) (w0 := w) 0 rfl rfl rfl rfl rfl rfl rfl rfl rfl rfl (OI.nil (Below.refl _ _)) (sl_take hs (min xs.length 61) (by omega)) (Below.refl _ _) (fun _ => rfl) (by simp; omega) (fun v' w' hO _ _ => ?_)
  rw [htk, List.nil_append] at hO
  (repeat (first | with_reducible refine W.seq ?_ | with_reducible refine Ops.nil ?_ | with_reducible refine W.region ?_ | refine z_p (kk := ?_) | refine z_a (kk := ?_) | refine z_y (kk := ?_) | refine z_n (kk := ?_) | refine z_u (kk := ?_) | with_reducible refine W.skip ?_ | with_reducible refine W.endb ?_ | with_reducible refine W.block ?_ | refine W.exit rfl ?_ | refine z_l (kk := ?_) | refine z_f (kk := ?_) | refine z_M (kk := ?_) | refine z_m (kk := ?_) | refine z_e (kk := ?_) | refine z_E (kk := ?_) | refine z_d (kk := ?_) | refine z_I (kk := fun _ => ?_) | refine z_J (kk := fun _ => ?_) | refine z_K (kk := fun _ => ?_) | refine z_L (kk := fun _ => ?_) | refine z_T (kk := ?_) | refine z_F (kk := ?_) | refine z_k (kk := fun _ _ _ _ _ => ?_) | refine z_w (kk := fun _ _ => ?_) | refine z_s (kk := fun _ _ _ _ => ?_) | refine z_g (kk := ?_) | refine z_h (kk := ?_)))
  exact W.fret rfl hO
def treeM (l : List Nd) : List Nd := (l.take 61).map fun x => (x.1.take 61, x.2)
theorem treeM_len (l : List Nd) : (treeM l).length = min 61 l.length := by simp [treeM]
theorem treeM_succ {l : List Nd} {i : Nat} (h : i < l.length) : (l.take (i + 1)).map (fun x : Nd => (x.1.take 61, x.2)) = (l.take i).map (fun x : Nd => (x.1.take 61, x.2)) ++ [((kid l i).take 61, wor l i)] := by
  rw [List.take_succ_eq_append_getElem h, List.map_append]
  simp [kid, wor, List.getD_eq_getElem?_getD, h]
set_option maxHeartbeats 2000000 in
theorem tree_c {w : World} {v : Value} {l : List Nd} (h : ArgT w v l) : Calls Try.prog 17 #[v] w (Ret fun r w' => Below w.heap.size w w' ∧ TreeM w' r (treeM l)) := by
  obtain ⟨hT, hll, hA⟩ := h
  obtain ⟨At, ct, rfl⟩ := hT.sl
  refine calls_W (vs := [_]) Try.func17 rfl (by kernel_rfl) rfl ?_
  (repeat (first | with_reducible refine W.seq ?_ | with_reducible refine Ops.nil ?_ | with_reducible refine W.region ?_ | refine z_p (kk := ?_) | refine z_a (kk := ?_) | refine z_y (kk := ?_) | refine z_n (kk := ?_) | refine z_u (kk := ?_) | with_reducible refine W.skip ?_ | with_reducible refine W.endb ?_ | with_reducible refine W.block ?_ | refine W.exit rfl ?_ | refine z_l (kk := ?_) | refine z_f (kk := ?_) | refine z_M (kk := ?_) | refine z_m (kk := ?_) | refine z_e (kk := ?_) | refine z_E (kk := ?_) | refine z_d (kk := ?_) | refine z_I (kk := fun _ => ?_) | refine z_J (kk := fun _ => ?_) | refine z_K (kk := fun _ => ?_) | refine z_L (kk := fun _ => ?_) | refine z_T (kk := ?_) | refine z_F (kk := ?_) | refine z_k (kk := fun _ _ _ _ _ => ?_) | refine z_w (kk := fun _ _ => ?_) | refine z_s (kk := fun _ _ _ _ => ?_) | refine z_g (kk := ?_) | refine z_h (kk := ?_)))
  refine W.loop (fun m ρ w3 => ∃ (i : Nat) (ov : Value) (cvs : List Value), m = l.length - i ∧ i ≤ l.length ∧ i ≤ 61 ∧ ρ = [(0, .slice At l.length ct), (3, ov), (4, .int .i64 i)] ∧ TO w w3 ov ((l.take i).map fun x => (x.1.take 61, x.2)) cvs)
    ⟨_, _, ⟨0, _, _, rfl, Nat.zero_le _, Nat.zero_le _, rfl, TO.nil (Below.refl _ _)⟩, (by repeat (first | exact trivial | refine And.intro rfl ?_))⟩ ?_
  rintro m ρ w3 ⟨i, ov, cvs, rfl, hi, hi2, rfl, hO⟩
  have hb3 := hO.bel
  by_cases hgo : i < l.length ∧ i ≤ 60
  · obtain ⟨g1, g2⟩ := hgo
    (repeat (first | with_reducible refine W.seq ?_ | with_reducible refine Ops.nil ?_ | with_reducible refine W.region ?_ | refine z_p (kk := ?_) | refine z_a (kk := ?_) | refine z_y (kk := ?_) | refine z_n (kk := ?_) | refine z_u (kk := ?_) | with_reducible refine W.skip ?_ | with_reducible refine W.endb ?_ | with_reducible refine W.block ?_ | refine W.exit rfl ?_ | refine z_l (kk := ?_) | refine z_f (kk := ?_) | refine z_M (kk := ?_) | refine z_m (kk := ?_) | refine z_e (kk := ?_) | refine z_E (kk := ?_) | refine z_d (kk := ?_) | refine z_I (kk := fun _ => ?_) | refine z_J (kk := fun _ => ?_) | refine z_K (kk := fun _ => ?_) | refine z_L (kk := fun _ => ?_) | refine z_T (kk := ?_) | refine z_F (kk := ?_) | refine z_k (kk := fun _ _ _ _ _ => ?_) | refine z_w (kk := fun _ _ => ?_) | refine z_s (kk := fun _ _ _ _ => ?_) | refine z_g (kk := ?_) | refine z_h (kk := ?_)))
    refine W.condT rfl (by first | rfl | assumption | (simp only [bnf] <;> omega) | (simp only [*, bnf]; done) | fail) ?_
    (repeat (first | with_reducible refine W.seq ?_ | with_reducible refine Ops.nil ?_ | with_reducible refine W.region ?_ | refine z_p (kk := ?_) | refine z_a (kk := ?_) | refine z_y (kk := ?_) | refine z_n (kk := ?_) | refine z_u (kk := ?_) | with_reducible refine W.skip ?_ | with_reducible refine W.endb ?_ | with_reducible refine W.block ?_ | refine W.exit rfl ?_ | refine z_l (kk := ?_) | refine z_f (kk := ?_) | refine z_M (kk := ?_) | refine z_m (kk := ?_) | refine z_e (kk := ?_) | refine z_E (kk := ?_) | refine z_d (kk := ?_) | refine z_I (kk := fun _ => ?_) | refine z_J (kk := fun _ => ?_) | refine z_K (kk := fun _ => ?_) | refine z_L (kk := fun _ => ?_) | refine z_T (kk := ?_) | refine z_F (kk := ?_) | refine z_k (kk := fun _ _ _ _ _ => ?_) | refine z_w (kk := fun _ _ => ?_) | refine z_s (kk := fun _ _ _ _ => ?_) | refine z_g (kk := ?_) | refine z_h (kk := ?_)))
    obtain ⟨a, c, A', c', e, hsl, hcap, hcell⟩ := hA i (by omega) (by omega)
    cases e
    refine W.ord (hm := rfl) 99 (fun w' => Below w.heap.size w w') [(0, 1), (1, 1), (2, 1), (3, 1), (4, 1), (5, 2), (7, 1), (8, 1), (9, 1), (10, 1), (11, 2), (6, 0), (12, 1), (13, 0), (14, 0), (15, 1)] (by kernel_rfl) rfl (by kernel_rfl) (fun w4 k4 _ => ⟨Below.put hb3 k4 (fun _ e => e.elim), ?_⟩)
    have hO4 := hO.below (Kp.below k4 (Nat.le_refl _) (fun _ _ e => e))
    (repeat (first | refine y_p (kk := ?_) | refine y_n (kk := ?_) | refine y_a (kk := ?_) | refine y_l (kk := ?_) | refine y_M (kk := ?_) | refine y_m (kk := ?_) | refine y_e (kk := ?_) | refine y_E (kk := ?_) | refine y_T (kk := ?_) | refine y_F (kk := ?_) | refine y_I (kk := fun _ => ?_) | refine y_J (kk := fun _ => ?_) | refine y_K (kk := fun _ => ?_) | refine y_L (kk := fun _ => ?_) | refine y_t (kk := ?_) | refine y_f (kk := ?_)))
    refine VW.Ord.pure rfl rfl rfl rfl (fun _ _ _ h => h) (fun w => EV.idx rfl rfl rfl rfl rfl (by omega) (by omega)) ?_
    refine VW.Ord.pure rfl rfl rfl rfl (fun _ _ _ h => h) (fun w => EV.fld rfl rfl (ev_top _ _ _)) ?_
    rw [add_zero']
    refine VW.Ord.read' rfl rfl rfl rfl (fun _ _ _ h => h) (fun w hw => EV.ld rfl rfl (ev_top _ _ _) (hcell w hw).1) ?_
    (repeat (first | refine y_p (kk := ?_) | refine y_n (kk := ?_) | refine y_a (kk := ?_) | refine y_l (kk := ?_) | refine y_M (kk := ?_) | refine y_m (kk := ?_) | refine y_e (kk := ?_) | refine y_E (kk := ?_) | refine y_T (kk := ?_) | refine y_F (kk := ?_) | refine y_I (kk := fun _ => ?_) | refine y_J (kk := fun _ => ?_) | refine y_K (kk := fun _ => ?_) | refine y_L (kk := fun _ => ?_) | refine y_k (kk := fun _ _ _ _ _ => ?_) | refine y_w (kk := fun _ _ => ?_) | refine y_s (kk := fun _ _ _ _ => ?_) | refine y_t (kk := ?_) | refine y_f (kk := ?_)))
    refine VW.Ord.effF rfl (Ops.call rfl rfl rfl rfl rfl (list_c ⟨Sl.below hsl hO4.bel, A', c', rfl, hcap⟩) (fun r w5 hR => Ops.nil (W.endl ⟨Below.via hO4.bel hR.bel, ?_⟩)))
    have hO5 := hO4.below hR.bel
    have hr1 : r.oneCell' = true := by obtain ⟨A, c, rfl⟩ := hR.sh; rfl
    refine VW.Ord.pure rfl rfl rfl rfl (fun _ _ _ h => h) (fun w => EV.bld2 rfl rfl rfl rfl rfl hr1 rfl) ?_
    refine VW.Ord.push2 (w0 := w) rfl rfl rfl rfl rfl rfl rfl rfl rfl rfl rfl rfl rfl (fun _ => rfl) hr1 rfl hO5.row (by simp; omega) below_F hO5.bel hO5.ge (fun lv' p w6 hF6 hrow k6 hn6 => ?_)
    have hO6 := hO5.push (hR.sl (z := (0 : Int))) (fun hp j hj e => by have := hR.ge j hj; have := (hO4.row.lt j e).2; omega) hrow k6 hn6
    rw [← treeM_succ g1] at hO6
    (repeat (first | refine y_p (kk := ?_) | refine y_n (kk := ?_) | refine y_a (kk := ?_) | refine y_l (kk := ?_) | refine y_M (kk := ?_) | refine y_m (kk := ?_) | refine y_e (kk := ?_) | refine y_E (kk := ?_) | refine y_T (kk := ?_) | refine y_F (kk := ?_) | refine y_I (kk := fun _ => ?_) | refine y_J (kk := fun _ => ?_) | refine y_K (kk := fun _ => ?_) | refine y_L (kk := fun _ => ?_) | refine y_k (kk := fun _ _ _ _ _ => ?_) | refine y_w (kk := fun _ _ => ?_) | refine y_s (kk := fun _ _ _ _ => ?_) | refine y_t (kk := ?_) | refine y_f (kk := ?_)))
    refine VW.Ord.nil ?_
    (repeat (first | with_reducible refine W.seq ?_ | with_reducible refine Ops.nil ?_ | with_reducible refine W.region ?_ | refine z_p (kk := ?_) | refine z_a (kk := ?_) | refine z_y (kk := ?_) | refine z_n (kk := ?_) | refine z_u (kk := ?_) | with_reducible refine W.skip ?_ | with_reducible refine W.endb ?_ | with_reducible refine W.block ?_ | refine W.exit rfl ?_ | refine z_l (kk := ?_) | refine z_f (kk := ?_) | refine z_M (kk := ?_) | refine z_m (kk := ?_) | refine z_e (kk := ?_) | refine z_E (kk := ?_) | refine z_d (kk := ?_) | refine z_I (kk := fun _ => ?_) | refine z_J (kk := fun _ => ?_) | refine z_K (kk := fun _ => ?_) | refine z_L (kk := fun _ => ?_) | refine z_T (kk := ?_) | refine z_F (kk := ?_) | refine z_k (kk := fun _ _ _ _ _ => ?_) | refine z_w (kk := fun _ _ => ?_) | refine z_s (kk := fun _ _ _ _ => ?_) | refine z_g (kk := ?_) | refine z_h (kk := ?_)))
    exact W.endl ⟨_, _, ⟨⟨i + 1, _, _, rfl, by omega, by omega, rfl, hO6⟩, by omega⟩, (by repeat (first | exact trivial | refine And.intro rfl ?_))⟩
  · have hfin : (l.take i).map (fun x : Nd => (x.1.take 61, x.2)) = treeM l := by
      unfold treeM
      by_cases h1 : i < l.length
      · rw [show i = 61 by omega]
      · rw [List.take_of_length_le (by omega), List.take_of_length_le (by omega)]
    rw [hfin] at hO
    by_cases h1 : i < l.length
    · have h2 : ¬ i ≤ 60 := by omega
      (repeat (first | with_reducible refine W.seq ?_ | with_reducible refine Ops.nil ?_ | with_reducible refine W.region ?_ | refine z_p (kk := ?_) | refine z_a (kk := ?_) | refine z_y (kk := ?_) | refine z_n (kk := ?_) | refine z_u (kk := ?_) | with_reducible refine W.skip ?_ | with_reducible refine W.endb ?_ | with_reducible refine W.block ?_ | refine W.exit rfl ?_ | refine z_l (kk := ?_) | refine z_f (kk := ?_) | refine z_M (kk := ?_) | refine z_m (kk := ?_) | refine z_e (kk := ?_) | refine z_E (kk := ?_) | refine z_d (kk := ?_) | refine z_I (kk := fun _ => ?_) | refine z_J (kk := fun _ => ?_) | refine z_K (kk := fun _ => ?_) | refine z_L (kk := fun _ => ?_) | refine z_T (kk := ?_) | refine z_F (kk := ?_) | refine z_k (kk := fun _ _ _ _ _ => ?_) | refine z_w (kk := fun _ _ => ?_) | refine z_s (kk := fun _ _ _ _ => ?_) | refine z_g (kk := ?_) | refine z_h (kk := ?_)))
      refine W.condF rfl (by first | rfl | assumption | (simp only [bnf] <;> omega) | (simp only [*, bnf]; done) | fail) ?_
      (repeat (first | with_reducible refine W.seq ?_ | with_reducible refine Ops.nil ?_ | with_reducible refine W.region ?_ | refine z_p (kk := ?_) | refine z_a (kk := ?_) | refine z_y (kk := ?_) | refine z_n (kk := ?_) | refine z_u (kk := ?_) | with_reducible refine W.skip ?_ | with_reducible refine W.endb ?_ | with_reducible refine W.block ?_ | refine W.exit rfl ?_ | refine z_l (kk := ?_) | refine z_f (kk := ?_) | refine z_M (kk := ?_) | refine z_m (kk := ?_) | refine z_e (kk := ?_) | refine z_E (kk := ?_) | refine z_d (kk := ?_) | refine z_I (kk := fun _ => ?_) | refine z_J (kk := fun _ => ?_) | refine z_K (kk := fun _ => ?_) | refine z_L (kk := fun _ => ?_) | refine z_T (kk := ?_) | refine z_F (kk := ?_) | refine z_k (kk := fun _ _ _ _ _ => ?_) | refine z_w (kk := fun _ _ => ?_) | refine z_s (kk := fun _ _ _ _ => ?_) | refine z_g (kk := ?_) | refine z_h (kk := ?_)))
      exact W.fret rfl ⟨hb3, hO.treeM⟩
    · (repeat (first | with_reducible refine W.seq ?_ | with_reducible refine Ops.nil ?_ | with_reducible refine W.region ?_ | refine z_p (kk := ?_) | refine z_a (kk := ?_) | refine z_y (kk := ?_) | refine z_n (kk := ?_) | refine z_u (kk := ?_) | with_reducible refine W.skip ?_ | with_reducible refine W.endb ?_ | with_reducible refine W.block ?_ | refine W.exit rfl ?_ | refine z_l (kk := ?_) | refine z_f (kk := ?_) | refine z_M (kk := ?_) | refine z_m (kk := ?_) | refine z_e (kk := ?_) | refine z_E (kk := ?_) | refine z_d (kk := ?_) | refine z_I (kk := fun _ => ?_) | refine z_J (kk := fun _ => ?_) | refine z_K (kk := fun _ => ?_) | refine z_L (kk := fun _ => ?_) | refine z_T (kk := ?_) | refine z_F (kk := ?_) | refine z_k (kk := fun _ _ _ _ _ => ?_) | refine z_w (kk := fun _ _ => ?_) | refine z_s (kk := fun _ _ _ _ => ?_) | refine z_g (kk := ?_) | refine z_h (kk := ?_)))
      refine W.condF rfl (by first | rfl | assumption | (simp only [bnf] <;> omega) | (simp only [*, bnf]; done) | fail) ?_
      (repeat (first | with_reducible refine W.seq ?_ | with_reducible refine Ops.nil ?_ | with_reducible refine W.region ?_ | refine z_p (kk := ?_) | refine z_a (kk := ?_) | refine z_y (kk := ?_) | refine z_n (kk := ?_) | refine z_u (kk := ?_) | with_reducible refine W.skip ?_ | with_reducible refine W.endb ?_ | with_reducible refine W.block ?_ | refine W.exit rfl ?_ | refine z_l (kk := ?_) | refine z_f (kk := ?_) | refine z_M (kk := ?_) | refine z_m (kk := ?_) | refine z_e (kk := ?_) | refine z_E (kk := ?_) | refine z_d (kk := ?_) | refine z_I (kk := fun _ => ?_) | refine z_J (kk := fun _ => ?_) | refine z_K (kk := fun _ => ?_) | refine z_L (kk := fun _ => ?_) | refine z_T (kk := ?_) | refine z_F (kk := ?_) | refine z_k (kk := fun _ _ _ _ _ => ?_) | refine z_w (kk := fun _ _ => ?_) | refine z_s (kk := fun _ _ _ _ => ?_) | refine z_g (kk := ?_) | refine z_h (kk := ?_)))
      exact W.fret rfl ⟨hb3, hO.treeM⟩
theorem Arg.below {w w' : World} {v : Value} {xs : List Int} (h : Arg w v xs) (k : Below w.heap.size w w') : Arg w' v xs := ⟨Sl.below h.1 k, h.2⟩
theorem treeM_kid (l : List Nd) (i : Nat) : (kid (treeM l) i).length ≤ 61 := by
  unfold kid treeM
  rw [List.getD_eq_getElem?_getD, List.getElem?_map]
  cases hx : (l.take 61)[((i : Nat) : Int).toNat]? with
  | none => simp
  | some x => simp; omega
end Go.Proofs.Ytdiljpnfochndaa
