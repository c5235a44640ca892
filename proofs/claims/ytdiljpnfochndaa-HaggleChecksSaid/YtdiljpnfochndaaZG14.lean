/- A part of the walk: what this seat's statements share. -/
import Derived.Test.YtdiljpnfochndaaZG13
import Derived.Test.YtdiljpnfochndaaZG10
import Derived.Test.YtdiljpnfochndaaZG11
set_option linter.unusedVariables false
set_option linter.unusedSimpArgs false
set_option linter.unusedSectionVars false
namespace Go.Proofs.Ytdiljpnfochndaa
open Go Go.RowKit Go.Proofs.Ytdiljpnfochndaa.VW
open Go.Proofs.Ytdiljpnfochndaa.HP (Nd kid wor leafB rd evB gameOf gameOf_TF TF TK ValP k_)
attribute [local irreducible] W Ops OrdA VW.Ord OrdX Wi OpsI
set_option maxHeartbeats 4000000 in
theorem leaves1_in {g b1 lp : Nat} {l : List Nd} {dep : List Int} {J : Nat → World → Prop} (hT : TF l dep)
    (hJ : ∀ i W, J i W → Blk W b1 #[.pointer (some ⟨g, 0, none⟩)] 69 ∧ Game W g l dep)
    (hno : ∀ i W, J i W → i < l.length → leafB l i = false → J (i + 1) W)
    (hyes : ∀ i W, J i W → i < l.length → leafB l i = true → YieldAt (Fw none) 0 Try.prog lp #[.int .i64 i] W (fun e W' => e = .returned (.bool true) ∧ J (i + 1) W'))
    {w : World} (h0 : J 0 w) : CallsIn (Fw none) 0 Try.prog 97 #[.func (.yield lp) #[] #[], .pointer (some ⟨b1, 0, none⟩)] w (Ret fun v w' => J l.length w') := by
  have hn60 := hT.n60
  have hdl := hT.len
  obtain ⟨hB, hG⟩ := hJ _ _ h0
  obtain ⟨tv, dv, hGB, hGT, hGD⟩ := hG.out
  obtain ⟨At, ct, rfl⟩ := hGT.sl
  refine callsIn_Wi (vs := [_, _]) Try.func97 rfl rfl ?_
  refine Wi.seq (Wi.regionN rfl rfl ?_)
  (repeat (first | with_reducible refine W.seq ?_ | with_reducible refine Ops.nil ?_ | with_reducible refine W.region ?_ | refine z_p (kk := ?_) | refine z_a (kk := ?_) | refine z_y (kk := ?_) | refine z_n (kk := ?_) | refine z_u (kk := ?_) | with_reducible refine W.skip ?_ | with_reducible refine W.endb ?_ | with_reducible refine W.block ?_ | refine W.exit rfl ?_ | refine z_l (kk := ?_) | refine z_f (kk := ?_) | refine z_M (kk := ?_) | refine z_m (kk := ?_) | refine z_e (kk := ?_) | refine z_E (kk := ?_) | refine z_d (kk := ?_) | refine z_I (kk := fun _ => ?_) | refine z_J (kk := fun _ => ?_) | refine z_K (kk := fun _ => ?_) | refine z_L (kk := fun _ => ?_) | refine z_T (kk := ?_) | refine z_F (kk := ?_) | refine z_k (kk := fun _ _ _ _ _ => ?_) | refine z_w (kk := fun _ _ => ?_) | refine z_s (kk := fun _ _ _ _ => ?_) | refine z_D (kk := ?_) | refine z_g (kk := ?_) | refine z_h (kk := ?_)))
  refine W.endl ?_
  refine Wi.sub (ρ' := [(0, .func (.yield lp) #[] #[]), (1, .pointer (some ⟨b1, 0, none⟩)), (8, .int .i64 l.length), (9, .int .i64 0)]) (by repeat (first | exact trivial | refine And.intro rfl ?_)) ?_
  clear hG hGB hGT hGD hB
  refine Wi.block (Wi.loop (m := l.length) (fun m ρ w1 => ∃ i : Nat, m = l.length - i ∧ i ≤ l.length ∧ ρ = [(0, .func (.yield lp) #[] #[]), (1, .pointer (some ⟨b1, 0, none⟩)), (8, .int .i64 l.length), (9, .int .i64 i)] ∧ J i w1) ⟨0, rfl, Nat.zero_le _, rfl, h0⟩ ?_)
  rintro m ρ w1 ⟨i, rfl, hi, rfl, hj⟩
  obtain ⟨hB, hG⟩ := hJ _ _ hj
  refine Wi.seq (Wi.regionN rfl rfl ?_)
  (repeat (first | with_reducible refine W.seq ?_ | with_reducible refine Ops.nil ?_ | with_reducible refine W.region ?_ | refine z_p (kk := ?_) | refine z_a (kk := ?_) | refine z_y (kk := ?_) | refine z_n (kk := ?_) | refine z_u (kk := ?_) | with_reducible refine W.skip ?_ | with_reducible refine W.endb ?_ | with_reducible refine W.block ?_ | refine W.exit rfl ?_ | refine z_l (kk := ?_) | refine z_f (kk := ?_) | refine z_M (kk := ?_) | refine z_m (kk := ?_) | refine z_e (kk := ?_) | refine z_E (kk := ?_) | refine z_d (kk := ?_) | refine z_I (kk := fun _ => ?_) | refine z_J (kk := fun _ => ?_) | refine z_K (kk := fun _ => ?_) | refine z_L (kk := fun _ => ?_) | refine z_T (kk := ?_) | refine z_F (kk := ?_) | refine z_k (kk := fun _ _ _ _ _ => ?_) | refine z_w (kk := fun _ _ => ?_) | refine z_s (kk := fun _ _ _ _ => ?_) | refine z_D (kk := ?_) | refine z_g (kk := ?_) | refine z_h (kk := ?_)))
  refine W.endl ?_
  refine Wi.seq (Wi.cond rfl (fun hc => ?_) (fun hc => ?_))
  · have hil : i < l.length := by simpa using hc
    refine Wi.skip ?_
    refine Wi.seq (Wi.block (Wi.seq (Wi.regionN rfl rfl ?_)))
    (repeat (first | with_reducible refine W.seq ?_ | with_reducible refine Ops.nil ?_ | with_reducible refine W.region ?_ | refine z_p (kk := ?_) | refine z_a (kk := ?_) | refine z_y (kk := ?_) | refine z_n (kk := ?_) | refine z_u (kk := ?_) | with_reducible refine W.skip ?_ | with_reducible refine W.endb ?_ | with_reducible refine W.block ?_ | refine W.exit rfl ?_ | refine z_l (kk := ?_) | refine z_f (kk := ?_) | refine z_M (kk := ?_) | refine z_m (kk := ?_) | refine z_e (kk := ?_) | refine z_E (kk := ?_) | refine z_d (kk := ?_) | refine z_I (kk := fun _ => ?_) | refine z_J (kk := fun _ => ?_) | refine z_K (kk := fun _ => ?_) | refine z_L (kk := fun _ => ?_) | refine z_T (kk := ?_) | refine z_F (kk := ?_) | refine z_k (kk := fun _ _ _ _ _ => ?_) | refine z_w (kk := fun _ _ => ?_) | refine z_s (kk := fun _ _ _ _ => ?_) | refine z_D (kk := ?_) | refine z_g (kk := ?_) | refine z_h (kk := ?_)))
    refine W.endl ?_
    refine Wi.seq (Wi.region ?_)
    refine OpsI.split 4 rfl rfl rfl rfl ?_
    (repeat (first | with_reducible refine W.seq ?_ | with_reducible refine Ops.nil ?_ | with_reducible refine W.region ?_ | refine z_p (kk := ?_) | refine z_a (kk := ?_) | refine z_y (kk := ?_) | refine z_n (kk := ?_) | refine z_u (kk := ?_) | with_reducible refine W.skip ?_ | with_reducible refine W.endb ?_ | with_reducible refine W.block ?_ | refine W.exit rfl ?_ | refine z_l (kk := ?_) | refine z_f (kk := ?_) | refine z_M (kk := ?_) | refine z_m (kk := ?_) | refine z_e (kk := ?_) | refine z_E (kk := ?_) | refine z_d (kk := ?_) | refine z_I (kk := fun _ => ?_) | refine z_J (kk := fun _ => ?_) | refine z_K (kk := fun _ => ?_) | refine z_L (kk := fun _ => ?_) | refine z_T (kk := ?_) | refine z_F (kk := ?_) | refine z_k (kk := fun _ _ _ _ _ => ?_) | refine z_w (kk := fun _ _ => ?_) | refine z_s (kk := fun _ _ _ _ => ?_) | refine z_D (kk := ?_) | refine z_g (kk := ?_) | refine z_h (kk := ?_)))
    refine Ops.callS rfl rfl rfl rfl rfl (isLeaf_c hG i (by omega) (by omega)) ?_
    cases hlf : leafB l i with
    | true =>
      (repeat (first | with_reducible refine W.seq ?_ | with_reducible refine Ops.nil ?_ | with_reducible refine W.region ?_ | refine z_p (kk := ?_) | refine z_a (kk := ?_) | refine z_y (kk := ?_) | refine z_n (kk := ?_) | refine z_u (kk := ?_) | with_reducible refine W.skip ?_ | with_reducible refine W.endb ?_ | with_reducible refine W.block ?_ | refine W.exit rfl ?_ | refine z_l (kk := ?_) | refine z_f (kk := ?_) | refine z_M (kk := ?_) | refine z_m (kk := ?_) | refine z_e (kk := ?_) | refine z_E (kk := ?_) | refine z_d (kk := ?_) | refine z_I (kk := fun _ => ?_) | refine z_J (kk := fun _ => ?_) | refine z_K (kk := fun _ => ?_) | refine z_L (kk := fun _ => ?_) | refine z_T (kk := ?_) | refine z_F (kk := ?_) | refine z_k (kk := fun _ _ _ _ _ => ?_) | refine z_w (kk := fun _ _ => ?_) | refine z_s (kk := fun _ _ _ _ => ?_) | refine z_D (kk := ?_) | refine z_g (kk := ?_) | refine z_h (kk := ?_)))
      refine Ops.nil (W.endl ?_)
      refine OpsI.split 2 rfl rfl rfl rfl ?_
      (repeat (first | with_reducible refine W.seq ?_ | with_reducible refine Ops.nil ?_ | with_reducible refine W.region ?_ | refine z_p (kk := ?_) | refine z_a (kk := ?_) | refine z_y (kk := ?_) | refine z_n (kk := ?_) | refine z_u (kk := ?_) | with_reducible refine W.skip ?_ | with_reducible refine W.endb ?_ | with_reducible refine W.block ?_ | refine W.exit rfl ?_ | refine z_l (kk := ?_) | refine z_f (kk := ?_) | refine z_M (kk := ?_) | refine z_m (kk := ?_) | refine z_e (kk := ?_) | refine z_E (kk := ?_) | refine z_d (kk := ?_) | refine z_I (kk := fun _ => ?_) | refine z_J (kk := fun _ => ?_) | refine z_K (kk := fun _ => ?_) | refine z_L (kk := fun _ => ?_) | refine z_T (kk := ?_) | refine z_F (kk := ?_) | refine z_k (kk := fun _ _ _ _ _ => ?_) | refine z_w (kk := fun _ _ => ?_) | refine z_s (kk := fun _ _ _ _ => ?_) | refine z_D (kk := ?_) | refine z_g (kk := ?_) | refine z_h (kk := ?_)))
      refine Ops.nil (W.endl ?_)
      obtain ⟨fn, tmps, assign, body, hr, hR⟩ := hyes i w1 hj hil hlf
      refine OpsI.yield rfl rfl rfl rfl rfl rfl rfl rfl ⟨fn, tmps, assign, body, hr, hR.mono fun e W' he => ⟨he.1, ?_⟩⟩
      have hj2 := he.2
      refine OpsI.split 2 rfl rfl rfl rfl ?_
      (repeat (first | with_reducible refine W.seq ?_ | with_reducible refine Ops.nil ?_ | with_reducible refine W.region ?_ | refine z_p (kk := ?_) | refine z_a (kk := ?_) | refine z_y (kk := ?_) | refine z_n (kk := ?_) | refine z_u (kk := ?_) | with_reducible refine W.skip ?_ | with_reducible refine W.endb ?_ | with_reducible refine W.block ?_ | refine W.exit rfl ?_ | refine z_l (kk := ?_) | refine z_f (kk := ?_) | refine z_M (kk := ?_) | refine z_m (kk := ?_) | refine z_e (kk := ?_) | refine z_E (kk := ?_) | refine z_d (kk := ?_) | refine z_I (kk := fun _ => ?_) | refine z_J (kk := fun _ => ?_) | refine z_K (kk := fun _ => ?_) | refine z_L (kk := fun _ => ?_) | refine z_T (kk := ?_) | refine z_F (kk := ?_) | refine z_k (kk := fun _ _ _ _ _ => ?_) | refine z_w (kk := fun _ _ => ?_) | refine z_s (kk := fun _ _ _ _ => ?_) | refine z_D (kk := ?_) | refine z_g (kk := ?_) | refine z_h (kk := ?_)))
      refine Ops.nil (W.endl (OpsI.nil ?_))
      refine Wi.cond rfl (fun hc => ?_) (fun _ => Wi.skip ?_)
      · simp at hc
      refine Wi.regionN rfl rfl ?_
      (repeat (first | with_reducible refine W.seq ?_ | with_reducible refine Ops.nil ?_ | with_reducible refine W.region ?_ | refine z_p (kk := ?_) | refine z_a (kk := ?_) | refine z_y (kk := ?_) | refine z_n (kk := ?_) | refine z_u (kk := ?_) | with_reducible refine W.skip ?_ | with_reducible refine W.endb ?_ | with_reducible refine W.block ?_ | refine W.exit rfl ?_ | refine z_l (kk := ?_) | refine z_f (kk := ?_) | refine z_M (kk := ?_) | refine z_m (kk := ?_) | refine z_e (kk := ?_) | refine z_E (kk := ?_) | refine z_d (kk := ?_) | refine z_I (kk := fun _ => ?_) | refine z_J (kk := fun _ => ?_) | refine z_K (kk := fun _ => ?_) | refine z_L (kk := fun _ => ?_) | refine z_T (kk := ?_) | refine z_F (kk := ?_) | refine z_k (kk := fun _ _ _ _ _ => ?_) | refine z_w (kk := fun _ _ => ?_) | refine z_s (kk := fun _ _ _ _ => ?_) | refine z_D (kk := ?_) | refine z_g (kk := ?_) | refine z_h (kk := ?_)))
      exact W.endl ⟨_, _, ⟨⟨i + 1, rfl, by omega, rfl, hj2⟩, by omega⟩, (by repeat (first | exact trivial | refine And.intro rfl ?_))⟩
    | false =>
      (repeat (first | with_reducible refine W.seq ?_ | with_reducible refine Ops.nil ?_ | with_reducible refine W.region ?_ | refine z_p (kk := ?_) | refine z_a (kk := ?_) | refine z_y (kk := ?_) | refine z_n (kk := ?_) | refine z_u (kk := ?_) | with_reducible refine W.skip ?_ | with_reducible refine W.endb ?_ | with_reducible refine W.block ?_ | refine W.exit rfl ?_ | refine z_l (kk := ?_) | refine z_f (kk := ?_) | refine z_M (kk := ?_) | refine z_m (kk := ?_) | refine z_e (kk := ?_) | refine z_E (kk := ?_) | refine z_d (kk := ?_) | refine z_I (kk := fun _ => ?_) | refine z_J (kk := fun _ => ?_) | refine z_K (kk := fun _ => ?_) | refine z_L (kk := fun _ => ?_) | refine z_T (kk := ?_) | refine z_F (kk := ?_) | refine z_k (kk := fun _ _ _ _ _ => ?_) | refine z_w (kk := fun _ _ => ?_) | refine z_s (kk := fun _ _ _ _ => ?_) | refine z_D (kk := ?_) | refine z_g (kk := ?_) | refine z_h (kk := ?_)))
      refine Ops.nil (W.endl ?_)
      refine OpsI.split 5 rfl rfl rfl rfl ?_
      (repeat (first | with_reducible refine W.seq ?_ | with_reducible refine Ops.nil ?_ | with_reducible refine W.region ?_ | refine z_p (kk := ?_) | refine z_a (kk := ?_) | refine z_y (kk := ?_) | refine z_n (kk := ?_) | refine z_u (kk := ?_) | with_reducible refine W.skip ?_ | with_reducible refine W.endb ?_ | with_reducible refine W.block ?_ | refine W.exit rfl ?_ | refine z_l (kk := ?_) | refine z_f (kk := ?_) | refine z_M (kk := ?_) | refine z_m (kk := ?_) | refine z_e (kk := ?_) | refine z_E (kk := ?_) | refine z_d (kk := ?_) | refine z_I (kk := fun _ => ?_) | refine z_J (kk := fun _ => ?_) | refine z_K (kk := fun _ => ?_) | refine z_L (kk := fun _ => ?_) | refine z_T (kk := ?_) | refine z_F (kk := ?_) | refine z_k (kk := fun _ _ _ _ _ => ?_) | refine z_w (kk := fun _ _ => ?_) | refine z_s (kk := fun _ _ _ _ => ?_) | refine z_D (kk := ?_) | refine z_g (kk := ?_) | refine z_h (kk := ?_)))
      refine Ops.nil (W.endl (OpsI.nil ?_))
      refine Wi.cond rfl (fun hc => ?_) (fun _ => Wi.skip ?_)
      · simp at hc
      refine Wi.regionN rfl rfl ?_
      (repeat (first | with_reducible refine W.seq ?_ | with_reducible refine Ops.nil ?_ | with_reducible refine W.region ?_ | refine z_p (kk := ?_) | refine z_a (kk := ?_) | refine z_y (kk := ?_) | refine z_n (kk := ?_) | refine z_u (kk := ?_) | with_reducible refine W.skip ?_ | with_reducible refine W.endb ?_ | with_reducible refine W.block ?_ | refine W.exit rfl ?_ | refine z_l (kk := ?_) | refine z_f (kk := ?_) | refine z_M (kk := ?_) | refine z_m (kk := ?_) | refine z_e (kk := ?_) | refine z_E (kk := ?_) | refine z_d (kk := ?_) | refine z_I (kk := fun _ => ?_) | refine z_J (kk := fun _ => ?_) | refine z_K (kk := fun _ => ?_) | refine z_L (kk := fun _ => ?_) | refine z_T (kk := ?_) | refine z_F (kk := ?_) | refine z_k (kk := fun _ _ _ _ _ => ?_) | refine z_w (kk := fun _ _ => ?_) | refine z_s (kk := fun _ _ _ _ => ?_) | refine z_D (kk := ?_) | refine z_g (kk := ?_) | refine z_h (kk := ?_)))
      exact W.endl ⟨_, _, ⟨⟨i + 1, rfl, by omega, rfl, hno i w1 hj hil hlf⟩, by omega⟩, (by repeat (first | exact trivial | refine And.intro rfl ?_))⟩
  · have : i = l.length := by simp at hc; omega
    subst this
    refine Wi.exit ?_
    show ite _ _ _
    rw [if_pos rfl]
    exact ⟨.inl rfl, _, rfl, hj⟩
end Go.Proofs.Ytdiljpnfochndaa
/- A range over a function, and one of its rounds. -/
namespace Go.Proofs.Ytdiljpnfochndaa.VW
open Go Go.RowKit
abbrev loopRec (fn : FuncId) (tmps : Array Value) (ps : Array Tmp) (assign body : Code) (D : Nat) : Loop := { state := .ready, pending := none, fn, tmps, params := ps, assign, body, defers := D }
section
variable {P : Program} {n : Nat} {ds : List Deferred} {ρ : E} {w : World}
theorem round_in {fn : FuncId} {tmps : Array Value} {p : Nat} {assign body : Code} {D L : Nat} {v : Value} {R : Ending → World → Prop} (hL : w.heap[L]? = some (.loop (loopRec fn tmps #[p] assign body D))) (hr : Rep n { tmps := tmps, defers := [] } ρ) (hp : Nat.blt p n = true)
    (h : Wi (some L) P n [] assign (fun e ρ1 w1 => e = .normal ∧ ∃ r, w1.heap[L]? = some (.loop r) ∧ r.state = .ready ∧ Wi (some L) P n [] body (fun e ρ2 w2 => e = .normal ∧ ∃ r2, w2.heap[L]? = some (.loop r2) ∧ R (.returned (.bool true)) (w2.putObj L (.loop { r2 with state := .ready, pending := none }))) ρ1 (w1.putObj L (.loop { r with state := .busy }))) ((p, v) :: ρ) w) :
    YieldAt (Fw none) 0 P L #[v] w R := by
  refine ⟨fn, _, assign, body, run_yield hL rfl, roundIn_of_wpIn (Fw_fn none fn) ?_⟩
  have hrep : Rep n { tmps := ((#[p] : Array Tmp).zip #[v]).foldl (fun tmps (t, a) => tmps.setIfInBounds t a) tmps, defers := [] } ((p, v) :: ρ) := by
    have := hr.put (d := some p) hp v
    simpa [Act.put, VW.put] using this
  refine wpIn_mono (h _ hrep rfl) ?_
  rintro e a w1 ⟨ρ1, hr1, hd1, rfl, r, hl1, hs1, hb⟩
  refine ⟨_, run_beginRound hl1 hs1, wpIn_mono (hb _ hr1 hd1) ?_⟩
  rintro e a2 w2 ⟨ρ2, hr2, hd2, rfl, r2, hl2, hR⟩
  exact ⟨_, _, run_endRound none hl2, hR⟩
/-- Code with a tail c2 still to come, before which marks may be laid. -/
def JW (P : Program) (n : Nat) (ds : List Deferred) (Φ : Post) (c2 c : Code) (ρ : E) (w : World) : Prop :=
  inB n c = true → ∀ a, Rep n a ρ → a.defers = ds → c.wp P (Exit.then (c2.wp P (lift n ds (Qof P n ds Φ []))) (lift n ds (Qof P n ds Φ []))) a w
theorem W.toJ {Y c2 : Code} {Φ : Post} (h : JW P n ds Φ c2 Y ρ w) : W P n ds [.code (.seq Y c2)] Φ ρ w := by
  intro hi a hr hd
  simp only [inB, Bool.and_eq_true] at hi
  exact wp_seq (h hi.1 a hr hd)
theorem JW.seq {x rest c2 : Code} {Φ : Post} (hi2 : inB n rest = true) (h : W P n ds [.code x, .lp (JW P n ds Φ c2 rest)] Φ ρ w) : JW P n ds Φ c2 (.seq x rest) ρ w := by
  intro hi a hr hd
  simp only [inB, Bool.and_eq_true] at hi
  refine wp_seq (wp_mono (h hi.1 a hr hd) fun e a w hl => ?_)
  cases e with
  | normal =>
    obtain ⟨ρ', hr', hl⟩ := hl
    obtain ⟨hd', hq⟩ := hl
    exact hq hi2 a hr' hd'
  | _ => exact hl
theorem JW.sub {c c2 : Code} {Φ : Post} {ρ' : E} (hs : Sub ρ' ρ) (h : JW P n ds Φ c2 c ρ' w) : JW P n ds Φ c2 c ρ w := fun hi a hr hd => h hi a (hr.sub hs) hd
theorem JW.range {id : Nat} {g : Operand} {p : Nat} {assign body c2 : Code} {gf : Nat} {lb : List Value} {Φ : Post} (hg : ev ρ g = some (.func (.func gf) #[] lb.toArray)) (hgf : callOk P gf = true) (hi2 : inB n c2 = true)
    (h : ∀ fn tmps, Rep n { tmps := tmps, defers := [] } ρ → ∀ D W1, D = w.heap.size → W1 = (w.alloc (.deferred (some []))).alloc (.loop (loopRec fn tmps #[p] assign body D)) →
      CallsIn (Fw none) 0 P gf (.func (.yield (D + 1)) #[] #[] :: lb).toArray W1 (Ret fun _ W2 => ∃ r, W2.heap[D + 1]? = some (.loop r) ∧ r.state = .ready ∧ r.pending = none ∧ W2.heap[D]? = some (.deferred (some [])) ∧
        ∀ W3, W3 = W2.putObj (D + 1) (.loop { r with state := .exhausted }) → W P n ({ target := .collected D, args := #[] } :: ds) [.code c2] (fun e ρ w => e = .ret ∧ w.heap[D]? = some (.deferred (some [])) ∧ Φ .ret ρ (w.putObj D (.deferred none))) ρ W3)) :
    JW P n ds Φ c2 (.block id (.rangeFunc g #[p] assign body)) ρ w := by
  intro hi a hr hd
  refine (wpIn_wide (n := 0)).1 (wpIn_block (wpIn_rangeFunc fun fn hfn => ?_))
  have hrep : Rep n { tmps := a.tmps, defers := [] } ρ := ⟨hr.size, hr.slot⟩
  have hcall := h fn a.tmps hrep _ _ rfl rfl
  have hev := hr.ev hg
  refine ⟨_, _, _, { target := .fn (.func gf) lb.toArray, args := #[.func (.yield (w.heap.size + 1)) #[] #[]] }, (w.alloc (.deferred (some []))).alloc (.loop (loopRec fn a.tmps #[p] assign body w.heap.size)), gf, _, _, run_enterLoop_outer _ _ _ _ _, ?_, fun f' _ => trivial, ?_, fun h => (by cases h), CallsIn.mono hcall ?_⟩
  · simp only [resolve, hev]
    simp [go_sem]
  · have hcf := run_callFunc (P := P) (w := (w.alloc (.deferred (some []))).alloc (.loop (loopRec fn a.tmps #[p] assign body w.heap.size))) (args := (.func (.yield (w.heap.size + 1)) #[] #[] :: lb).toArray) hgf
    have e : (Value.func (.yield (w.heap.size + 1)) #[] #[] :: lb).toArray = #[.func (.yield (w.heap.size + 1)) #[] #[]] ++ lb.toArray := by simp
    rw [e] at hcf ⊢
    simpa [invoke] using hcf
  · rintro e W2 ⟨v, rfl, r, hl, hs, hp, hD, hw⟩
    obtain ⟨st, pe, q1, q2, q3, q4, q5, q6⟩ := r
    simp only at hs hp
    subst hp
    refine ⟨none, _, run_endLoop (P := P) hl (by simp [hs]), ?_⟩
    show c2.wp P _ _ _
    have hw' := hw _ rfl hi2 { a with defers := { target := .collected w.heap.size, args := #[] } :: a.defers } ⟨hr.size, hr.slot⟩ (by rw [hd])
    refine wp_mono hw' ?_
    rintro e a3 w3 ⟨ρ3, hr3, hl3⟩
    cases e with
    | ret =>
      obtain ⟨w4, hm, _, hD3, hΦ⟩ := hl3
      exact ⟨ρ3, hr3, _, hm.trans (.cons hD3 (.nil _ _)), Qof.ret hΦ⟩
    | _ => exact absurd hl3.2.1 (by simp)
end
section
variable {P : Program} [hT : Tab P] {n : Nat} {ds : List Deferred} {ρ : E} {w : World} {all : Array Oper} {k : List It} {Φ : Post} {s : Nat} {F : World → Prop} {π : List (Nat × Nat)} {L : List Bool}
theorem x_D {i d t b q t' : Nat} {o : Oper} {x : Operand} {cs : Array Value} {v : Value} {w0 : World} {c : Bool} (h1 : all[i]? = some o := by exact rfl) (ho : o.op = .load t x := by exact rfl) (hd : o.dst = some d := by exact rfl) (hg : gdB all ρ o.guard = some c := by exact rfl) (hgc : c = true := by exact rfl)
    (ht : tyAgg P t = some false := by exact rfl) (hx : ev ρ x = some (.pointer (some ⟨b, q, none⟩)) := by exact rfl) (hb : Blk w0 b cs t' := by assumption) (hF : ∀ w, F w → Below w0.heap.size w0 w := by first | exact fun _ h => h | (intro _ h; exact Below.via (by assumption) h)) (hi : nth cs.toList q = some v := by exact rfl) (kk : OrdA P n ds all k Φ s F π (L.set i true) ((d, v) :: ρ)) : OrdA P n ds all k Φ s F ((i, 2) :: π) L ρ :=
  OrdA.read h1 hd hg hgc (fun w hFw => EV.ld ho ht hx ((hb.kp (Kp.of_below (S := fun _ => False) (hF w hFw)) (fun e => e)).cell (by rw [nth_eq, Array.getElem?_toList] at hi; exact hi))) kk
end
end Go.Proofs.Ytdiljpnfochndaa.VW
namespace Go.Proofs.Ytdiljpnfochndaa
open Go Go.RowKit Go.Proofs.Ytdiljpnfochndaa.VW
open Go.Proofs.Ytdiljpnfochndaa.HP (Nd kid wor leafB rd evB gameOf gameOf_TF TF TK ValP k_)
attribute [local irreducible] W Ops OrdA VW.Ord OrdX Wi OpsI
theorem index_c {w : World} {v : Value} {xs : List Int} {x : Int} (h : SlI w v xs) (hl : xs.length ≤ 9223372036854775807) :
    Calls Try.prog 96 #[v, .int .i64 x] w (Ret fun r w' => w' = w ∧ ∃ j : Int, r = .int .i64 j ∧ (0 ≤ j ↔ x ∈ xs)) := by
  obtain ⟨A, c, rfl⟩ := Sl.sl h
  refine calls_W (vs := [_, _]) Try.func96 rfl (by kernel_rfl) rfl ?_
  (repeat (first | with_reducible refine W.seq ?_ | with_reducible refine Ops.nil ?_ | with_reducible refine W.region ?_ | refine z_p (kk := ?_) | refine z_a (kk := ?_) | refine z_y (kk := ?_) | refine z_n (kk := ?_) | refine z_u (kk := ?_) | with_reducible refine W.skip ?_ | with_reducible refine W.endb ?_ | with_reducible refine W.block ?_ | refine W.exit rfl ?_ | refine z_l (kk := ?_) | refine z_f (kk := ?_) | refine z_M (kk := ?_) | refine z_m (kk := ?_) | refine z_e (kk := ?_) | refine z_E (kk := ?_) | refine z_d (kk := ?_) | refine z_I (kk := fun _ => ?_) | refine z_J (kk := fun _ => ?_) | refine z_K (kk := fun _ => ?_) | refine z_L (kk := fun _ => ?_) | refine z_T (kk := ?_) | refine z_F (kk := ?_) | refine z_k (kk := fun _ _ _ _ _ => ?_) | refine z_w (kk := fun _ _ => ?_) | refine z_s (kk := fun _ _ _ _ => ?_) | refine z_D (kk := ?_) | refine z_g (kk := ?_) | refine z_h (kk := ?_)))
  refine W.loop (fun m ρ w1 => ∃ i : Nat, m = xs.length - i ∧ i ≤ xs.length ∧ ρ = [(0, .slice A xs.length c), (1, .int .i64 x), (7, .int .i64 xs.length), (8, .int .i64 i)] ∧ w1 = w ∧ ∀ j : Nat, j < i → xs.getD j 0 ≠ x)
    ⟨_, _, ⟨0, rfl, Nat.zero_le _, rfl, rfl, fun j h => by omega⟩, (by repeat (first | exact trivial | refine And.intro rfl ?_))⟩ ?_
  rintro m ρ w1 ⟨i, rfl, hi, rfl, rfl, hn⟩
  (repeat (first | with_reducible refine W.seq ?_ | with_reducible refine Ops.nil ?_ | with_reducible refine W.region ?_ | refine z_p (kk := ?_) | refine z_a (kk := ?_) | refine z_y (kk := ?_) | refine z_n (kk := ?_) | refine z_u (kk := ?_) | with_reducible refine W.skip ?_ | with_reducible refine W.endb ?_ | with_reducible refine W.block ?_ | refine W.exit rfl ?_ | refine z_l (kk := ?_) | refine z_f (kk := ?_) | refine z_M (kk := ?_) | refine z_m (kk := ?_) | refine z_e (kk := ?_) | refine z_E (kk := ?_) | refine z_d (kk := ?_) | refine z_I (kk := fun _ => ?_) | refine z_J (kk := fun _ => ?_) | refine z_K (kk := fun _ => ?_) | refine z_L (kk := fun _ => ?_) | refine z_T (kk := ?_) | refine z_F (kk := ?_) | refine z_k (kk := fun _ _ _ _ _ => ?_) | refine z_w (kk := fun _ _ => ?_) | refine z_s (kk := fun _ _ _ _ => ?_) | refine z_D (kk := ?_) | refine z_g (kk := ?_) | refine z_h (kk := ?_)))
  (first | refine W.condD rfl (fun hc => ?_) (fun hc => ?_) | refine W.condE rfl (fun hc => ?_) (fun hc => ?_) | refine W.condN rfl (fun hc => ?_) (fun hc => ?_) | refine W.cond rfl (fun hc => ?_) (fun hc => ?_))
  · have hil : i < xs.length := by omega
    (repeat (first | with_reducible refine W.seq ?_ | with_reducible refine Ops.nil ?_ | with_reducible refine W.region ?_ | refine z_p (kk := ?_) | refine z_a (kk := ?_) | refine z_y (kk := ?_) | refine z_n (kk := ?_) | refine z_u (kk := ?_) | with_reducible refine W.skip ?_ | with_reducible refine W.endb ?_ | with_reducible refine W.block ?_ | refine W.exit rfl ?_ | refine z_l (kk := ?_) | refine z_f (kk := ?_) | refine z_M (kk := ?_) | refine z_m (kk := ?_) | refine z_e (kk := ?_) | refine z_E (kk := ?_) | refine z_d (kk := ?_) | refine z_I (kk := fun _ => ?_) | refine z_J (kk := fun _ => ?_) | refine z_K (kk := fun _ => ?_) | refine z_L (kk := fun _ => ?_) | refine z_T (kk := ?_) | refine z_F (kk := ?_) | refine z_k (kk := fun _ _ _ _ _ => ?_) | refine z_w (kk := fun _ _ => ?_) | refine z_s (kk := fun _ _ _ _ => ?_) | refine z_D (kk := ?_) | refine z_g (kk := ?_) | refine z_h (kk := ?_)))
    by_cases e : x = xs.getD i 0
    · refine W.condT rfl (by first | rfl | assumption | (simp only [bnf] <;> omega) | (simp only [*, bnf]; done) | fail) ?_
      (repeat (first | with_reducible refine W.seq ?_ | with_reducible refine Ops.nil ?_ | with_reducible refine W.region ?_ | refine z_p (kk := ?_) | refine z_a (kk := ?_) | refine z_y (kk := ?_) | refine z_n (kk := ?_) | refine z_u (kk := ?_) | with_reducible refine W.skip ?_ | with_reducible refine W.endb ?_ | with_reducible refine W.block ?_ | refine W.exit rfl ?_ | refine z_l (kk := ?_) | refine z_f (kk := ?_) | refine z_M (kk := ?_) | refine z_m (kk := ?_) | refine z_e (kk := ?_) | refine z_E (kk := ?_) | refine z_d (kk := ?_) | refine z_I (kk := fun _ => ?_) | refine z_J (kk := fun _ => ?_) | refine z_K (kk := fun _ => ?_) | refine z_L (kk := fun _ => ?_) | refine z_T (kk := ?_) | refine z_F (kk := ?_) | refine z_k (kk := fun _ _ _ _ _ => ?_) | refine z_w (kk := fun _ _ => ?_) | refine z_s (kk := fun _ _ _ _ => ?_) | refine z_D (kk := ?_) | refine z_g (kk := ?_) | refine z_h (kk := ?_)))
      refine W.fret rfl ⟨rfl, _, rfl, fun _ => ?_, fun _ => by omega⟩
      rw [e, List.getD_eq_getElem?_getD, List.getElem?_eq_getElem hil]
      simp
    · refine W.condF rfl (by first | rfl | assumption | (simp only [bnf] <;> omega) | (simp only [*, bnf]; done) | fail) ?_
      (repeat (first | with_reducible refine W.seq ?_ | with_reducible refine Ops.nil ?_ | with_reducible refine W.region ?_ | refine z_p (kk := ?_) | refine z_a (kk := ?_) | refine z_y (kk := ?_) | refine z_n (kk := ?_) | refine z_u (kk := ?_) | with_reducible refine W.skip ?_ | with_reducible refine W.endb ?_ | with_reducible refine W.block ?_ | refine W.exit rfl ?_ | refine z_l (kk := ?_) | refine z_f (kk := ?_) | refine z_M (kk := ?_) | refine z_m (kk := ?_) | refine z_e (kk := ?_) | refine z_E (kk := ?_) | refine z_d (kk := ?_) | refine z_I (kk := fun _ => ?_) | refine z_J (kk := fun _ => ?_) | refine z_K (kk := fun _ => ?_) | refine z_L (kk := fun _ => ?_) | refine z_T (kk := ?_) | refine z_F (kk := ?_) | refine z_k (kk := fun _ _ _ _ _ => ?_) | refine z_w (kk := fun _ _ => ?_) | refine z_s (kk := fun _ _ _ _ => ?_) | refine z_D (kk := ?_) | refine z_g (kk := ?_) | refine z_h (kk := ?_)))
      refine W.endl ⟨_, _, ⟨⟨i + 1, rfl, by omega, rfl, rfl, fun j hj => ?_⟩, by omega⟩, (by repeat (first | exact trivial | refine And.intro rfl ?_))⟩
      by_cases ej : j = i
      · subst ej; exact fun h => e h.symm
      · exact hn j (by omega)
  · have : i = xs.length := by omega
    subst this
    (repeat (first | with_reducible refine W.seq ?_ | with_reducible refine Ops.nil ?_ | with_reducible refine W.region ?_ | refine z_p (kk := ?_) | refine z_a (kk := ?_) | refine z_y (kk := ?_) | refine z_n (kk := ?_) | refine z_u (kk := ?_) | with_reducible refine W.skip ?_ | with_reducible refine W.endb ?_ | with_reducible refine W.block ?_ | refine W.exit rfl ?_ | refine z_l (kk := ?_) | refine z_f (kk := ?_) | refine z_M (kk := ?_) | refine z_m (kk := ?_) | refine z_e (kk := ?_) | refine z_E (kk := ?_) | refine z_d (kk := ?_) | refine z_I (kk := fun _ => ?_) | refine z_J (kk := fun _ => ?_) | refine z_K (kk := fun _ => ?_) | refine z_L (kk := fun _ => ?_) | refine z_T (kk := ?_) | refine z_F (kk := ?_) | refine z_k (kk := fun _ _ _ _ _ => ?_) | refine z_w (kk := fun _ _ => ?_) | refine z_s (kk := fun _ _ _ _ => ?_) | refine z_D (kk := ?_) | refine z_g (kk := ?_) | refine z_h (kk := ?_)))
    refine W.fret rfl ⟨rfl, _, rfl, fun h => by omega, fun hm => ?_⟩
    obtain ⟨j, hj, e⟩ := List.mem_iff_getElem.1 hm
    exact absurd (by rw [List.getD_eq_getElem?_getD, List.getElem?_eq_getElem hj]; simpa using e) (hn j hj)
theorem contains_c {w : World} {v : Value} {xs : List Int} {x : Int} (h : SlI w v xs) (hl : xs.length ≤ 9223372036854775807) :
    Calls Try.prog 82 #[v, .int .i64 x] w (Ret fun r w' => r = .bool (decide (x ∈ xs)) ∧ w' = w) := by
  refine calls_W (vs := [_, _]) Try.func82 rfl (by kernel_rfl) rfl ?_
  (repeat (first | with_reducible refine W.seq ?_ | with_reducible refine Ops.nil ?_ | with_reducible refine W.region ?_ | refine z_p (kk := ?_) | refine z_a (kk := ?_) | refine z_y (kk := ?_) | refine z_n (kk := ?_) | refine z_u (kk := ?_) | with_reducible refine W.skip ?_ | with_reducible refine W.endb ?_ | with_reducible refine W.block ?_ | refine W.exit rfl ?_ | refine z_l (kk := ?_) | refine z_f (kk := ?_) | refine z_M (kk := ?_) | refine z_m (kk := ?_) | refine z_e (kk := ?_) | refine z_E (kk := ?_) | refine z_d (kk := ?_) | refine z_I (kk := fun _ => ?_) | refine z_J (kk := fun _ => ?_) | refine z_K (kk := fun _ => ?_) | refine z_L (kk := fun _ => ?_) | refine z_T (kk := ?_) | refine z_F (kk := ?_) | refine z_k (kk := fun _ _ _ _ _ => ?_) | refine z_w (kk := fun _ _ => ?_) | refine z_s (kk := fun _ _ _ _ => ?_) | refine z_D (kk := ?_) | refine z_g (kk := ?_) | refine z_h (kk := ?_)))
  refine Ops.call rfl rfl rfl rfl rfl (index_c h hl) (fun r w1 hR => ?_)
  obtain ⟨rfl, j, rfl, hj⟩ := hR
  (repeat (first | with_reducible refine W.seq ?_ | with_reducible refine Ops.nil ?_ | with_reducible refine W.region ?_ | refine z_p (kk := ?_) | refine z_a (kk := ?_) | refine z_y (kk := ?_) | refine z_n (kk := ?_) | refine z_u (kk := ?_) | with_reducible refine W.skip ?_ | with_reducible refine W.endb ?_ | with_reducible refine W.block ?_ | refine W.exit rfl ?_ | refine z_l (kk := ?_) | refine z_f (kk := ?_) | refine z_M (kk := ?_) | refine z_m (kk := ?_) | refine z_e (kk := ?_) | refine z_E (kk := ?_) | refine z_d (kk := ?_) | refine z_I (kk := fun _ => ?_) | refine z_J (kk := fun _ => ?_) | refine z_K (kk := fun _ => ?_) | refine z_L (kk := fun _ => ?_) | refine z_T (kk := ?_) | refine z_F (kk := ?_) | refine z_k (kk := fun _ _ _ _ _ => ?_) | refine z_w (kk := fun _ _ => ?_) | refine z_s (kk := fun _ _ _ _ => ?_) | refine z_D (kk := ?_) | refine z_g (kk := ?_) | refine z_h (kk := ?_)))
  refine W.fret rfl ⟨?_, rfl⟩
  show Value.bool _ = _
  congr 1
  rw [Bool.eq_iff_iff]
  simpa using hj
theorem equal_c {w : World} {v1 v2 : Value} {xs ys : List Int} (h1 : SlI w v1 xs) (h2 : SlI w v2 ys) (hl1 : xs.length ≤ 9223372036854775807) (hl2 : ys.length ≤ 9223372036854775807) :
    Calls Try.prog 83 #[v1, v2] w (Ret fun r w' => r = .bool (decide (xs = ys)) ∧ Below w.heap.size w w') := by
  obtain ⟨A, c, rfl⟩ := Sl.sl h1
  obtain ⟨A2, c2, rfl⟩ := Sl.sl h2
  refine calls_W (vs := [_, _]) Try.func83 rfl (by kernel_rfl) rfl ?_
  (repeat (first | with_reducible refine W.seq ?_ | with_reducible refine Ops.nil ?_ | with_reducible refine W.region ?_ | refine z_p (kk := ?_) | refine z_a (kk := ?_) | refine z_y (kk := ?_) | refine z_n (kk := ?_) | refine z_u (kk := ?_) | with_reducible refine W.skip ?_ | with_reducible refine W.endb ?_ | with_reducible refine W.block ?_ | refine W.exit rfl ?_ | refine z_l (kk := ?_) | refine z_f (kk := ?_) | refine z_M (kk := ?_) | refine z_m (kk := ?_) | refine z_e (kk := ?_) | refine z_E (kk := ?_) | refine z_d (kk := ?_) | refine z_I (kk := fun _ => ?_) | refine z_J (kk := fun _ => ?_) | refine z_K (kk := fun _ => ?_) | refine z_L (kk := fun _ => ?_) | refine z_T (kk := ?_) | refine z_F (kk := ?_) | refine z_k (kk := fun _ _ _ _ _ => ?_) | refine z_w (kk := fun _ _ => ?_) | refine z_s (kk := fun _ _ _ _ => ?_) | refine z_D (kk := ?_) | refine z_g (kk := ?_) | refine z_h (kk := ?_)))
  by_cases hle : xs.length = ys.length
  · refine W.condF rfl (by first | rfl | assumption | (simp only [bnf] <;> omega) | (simp only [*, bnf]; done) | fail) ?_
    (repeat (first | with_reducible refine W.seq ?_ | with_reducible refine Ops.nil ?_ | with_reducible refine W.region ?_ | refine z_p (kk := ?_) | refine z_a (kk := ?_) | refine z_y (kk := ?_) | refine z_n (kk := ?_) | refine z_u (kk := ?_) | with_reducible refine W.skip ?_ | with_reducible refine W.endb ?_ | with_reducible refine W.block ?_ | refine W.exit rfl ?_ | refine z_l (kk := ?_) | refine z_f (kk := ?_) | refine z_M (kk := ?_) | refine z_m (kk := ?_) | refine z_e (kk := ?_) | refine z_E (kk := ?_) | refine z_d (kk := ?_) | refine z_I (kk := fun _ => ?_) | refine z_J (kk := fun _ => ?_) | refine z_K (kk := fun _ => ?_) | refine z_L (kk := fun _ => ?_) | refine z_T (kk := ?_) | refine z_F (kk := ?_) | refine z_k (kk := fun _ _ _ _ _ => ?_) | refine z_w (kk := fun _ _ => ?_) | refine z_s (kk := fun _ _ _ _ => ?_) | refine z_D (kk := ?_) | refine z_g (kk := ?_) | refine z_h (kk := ?_)))
    refine W.loop (fun m ρ w1 => ∃ i : Nat, m = xs.length - i ∧ i ≤ xs.length ∧ ρ = [(0, .slice A xs.length c), (1, .slice A2 ys.length c2), (12, .int .i64 xs.length), (13, .int .i64 i)] ∧ Below w.heap.size w w1 ∧ ∀ j : Nat, j < i → xs.getD j 0 = ys.getD j 0)
      ⟨_, _, ⟨0, rfl, Nat.zero_le _, rfl, Below.refl _ _, fun j h => by omega⟩, (by repeat (first | exact trivial | refine And.intro rfl ?_))⟩ ?_
    rintro m ρ w1 ⟨i, rfl, hi, rfl, hb1, hn⟩
    (repeat (first | with_reducible refine W.seq ?_ | with_reducible refine Ops.nil ?_ | with_reducible refine W.region ?_ | refine z_p (kk := ?_) | refine z_a (kk := ?_) | refine z_y (kk := ?_) | refine z_n (kk := ?_) | refine z_u (kk := ?_) | with_reducible refine W.skip ?_ | with_reducible refine W.endb ?_ | with_reducible refine W.block ?_ | refine W.exit rfl ?_ | refine z_l (kk := ?_) | refine z_f (kk := ?_) | refine z_M (kk := ?_) | refine z_m (kk := ?_) | refine z_e (kk := ?_) | refine z_E (kk := ?_) | refine z_d (kk := ?_) | refine z_I (kk := fun _ => ?_) | refine z_J (kk := fun _ => ?_) | refine z_K (kk := fun _ => ?_) | refine z_L (kk := fun _ => ?_) | refine z_T (kk := ?_) | refine z_F (kk := ?_) | refine z_k (kk := fun _ _ _ _ _ => ?_) | refine z_w (kk := fun _ _ => ?_) | refine z_s (kk := fun _ _ _ _ => ?_) | refine z_D (kk := ?_) | refine z_g (kk := ?_) | refine z_h (kk := ?_)))
    (first | refine W.condD rfl (fun hc => ?_) (fun hc => ?_) | refine W.condE rfl (fun hc => ?_) (fun hc => ?_) | refine W.condN rfl (fun hc => ?_) (fun hc => ?_) | refine W.cond rfl (fun hc => ?_) (fun hc => ?_))
    · have hil : i < xs.length := by omega
      (repeat (first | with_reducible refine W.seq ?_ | with_reducible refine Ops.nil ?_ | with_reducible refine W.region ?_ | refine z_p (kk := ?_) | refine z_a (kk := ?_) | refine z_y (kk := ?_) | refine z_n (kk := ?_) | refine z_u (kk := ?_) | with_reducible refine W.skip ?_ | with_reducible refine W.endb ?_ | with_reducible refine W.block ?_ | refine W.exit rfl ?_ | refine z_l (kk := ?_) | refine z_f (kk := ?_) | refine z_M (kk := ?_) | refine z_m (kk := ?_) | refine z_e (kk := ?_) | refine z_E (kk := ?_) | refine z_d (kk := ?_) | refine z_I (kk := fun _ => ?_) | refine z_J (kk := fun _ => ?_) | refine z_K (kk := fun _ => ?_) | refine z_L (kk := fun _ => ?_) | refine z_T (kk := ?_) | refine z_F (kk := ?_) | refine z_k (kk := fun _ _ _ _ _ => ?_) | refine z_w (kk := fun _ _ => ?_) | refine z_s (kk := fun _ _ _ _ => ?_) | refine z_D (kk := ?_) | refine z_g (kk := ?_) | refine z_h (kk := ?_)))
      refine W.ordA 99 [(0, 1), (1, 1), (2, 1), (3, 2), (4, 1), (5, 1), (6, 1), (7, 2), (8, 1)] rfl (by kernel_rfl) rfl (by kernel_rfl) (fun _ _ _ h => h) ?_
      (repeat (first | refine x_p (kk := ?_) | refine x_n (kk := ?_) | refine x_a (kk := ?_) | refine x_l (kk := ?_) | refine x_M (kk := ?_) | refine x_m (kk := ?_) | refine x_e (kk := ?_) | refine x_E (kk := ?_) | refine x_T (kk := ?_) | refine x_F (kk := ?_) | refine x_I (kk := fun _ => ?_) | refine x_J (kk := fun _ => ?_) | refine x_K (kk := fun _ => ?_) | refine x_L (kk := fun _ => ?_) | refine x_k (kk := fun _ _ _ _ _ => ?_) | refine x_w (kk := fun _ _ => ?_) | refine x_s (kk := fun _ _ _ _ => ?_) | refine x_t (kk := ?_) | refine x_f (kk := ?_)))
      refine OrdA.nil (fun w4 hb4 => ?_)
      have hb04 := Below.via hb1 hb4
      by_cases e : xs.getD i 0 = ys.getD i 0
      · refine W.condF rfl (by first | rfl | assumption | (simp only [bnf] <;> omega) | (simp only [*, bnf]; done) | fail) ?_
        (repeat (first | with_reducible refine W.seq ?_ | with_reducible refine Ops.nil ?_ | with_reducible refine W.region ?_ | refine z_p (kk := ?_) | refine z_a (kk := ?_) | refine z_y (kk := ?_) | refine z_n (kk := ?_) | refine z_u (kk := ?_) | with_reducible refine W.skip ?_ | with_reducible refine W.endb ?_ | with_reducible refine W.block ?_ | refine W.exit rfl ?_ | refine z_l (kk := ?_) | refine z_f (kk := ?_) | refine z_M (kk := ?_) | refine z_m (kk := ?_) | refine z_e (kk := ?_) | refine z_E (kk := ?_) | refine z_d (kk := ?_) | refine z_I (kk := fun _ => ?_) | refine z_J (kk := fun _ => ?_) | refine z_K (kk := fun _ => ?_) | refine z_L (kk := fun _ => ?_) | refine z_T (kk := ?_) | refine z_F (kk := ?_) | refine z_k (kk := fun _ _ _ _ _ => ?_) | refine z_w (kk := fun _ _ => ?_) | refine z_s (kk := fun _ _ _ _ => ?_) | refine z_D (kk := ?_) | refine z_g (kk := ?_) | refine z_h (kk := ?_)))
        refine W.endl ⟨_, _, ⟨⟨i + 1, rfl, by omega, rfl, hb04, fun j hj => ?_⟩, by omega⟩, (by repeat (first | exact trivial | refine And.intro rfl ?_))⟩
        by_cases ej : j = i
        · subst ej; exact e
        · exact hn j (by omega)
      · refine W.condT rfl (by first | rfl | assumption | (simp only [bnf] <;> omega) | (simp only [*, bnf]; done) | fail) ?_
        (repeat (first | with_reducible refine W.seq ?_ | with_reducible refine Ops.nil ?_ | with_reducible refine W.region ?_ | refine z_p (kk := ?_) | refine z_a (kk := ?_) | refine z_y (kk := ?_) | refine z_n (kk := ?_) | refine z_u (kk := ?_) | with_reducible refine W.skip ?_ | with_reducible refine W.endb ?_ | with_reducible refine W.block ?_ | refine W.exit rfl ?_ | refine z_l (kk := ?_) | refine z_f (kk := ?_) | refine z_M (kk := ?_) | refine z_m (kk := ?_) | refine z_e (kk := ?_) | refine z_E (kk := ?_) | refine z_d (kk := ?_) | refine z_I (kk := fun _ => ?_) | refine z_J (kk := fun _ => ?_) | refine z_K (kk := fun _ => ?_) | refine z_L (kk := fun _ => ?_) | refine z_T (kk := ?_) | refine z_F (kk := ?_) | refine z_k (kk := fun _ _ _ _ _ => ?_) | refine z_w (kk := fun _ _ => ?_) | refine z_s (kk := fun _ _ _ _ => ?_) | refine z_D (kk := ?_) | refine z_g (kk := ?_) | refine z_h (kk := ?_)))
        refine W.fret rfl ⟨?_, hb04⟩
        rw [decide_eq_false]
        · rfl
        · intro h; exact e (by rw [h])
    · have : i = xs.length := by omega
      subst this
      (repeat (first | with_reducible refine W.seq ?_ | with_reducible refine Ops.nil ?_ | with_reducible refine W.region ?_ | refine z_p (kk := ?_) | refine z_a (kk := ?_) | refine z_y (kk := ?_) | refine z_n (kk := ?_) | refine z_u (kk := ?_) | with_reducible refine W.skip ?_ | with_reducible refine W.endb ?_ | with_reducible refine W.block ?_ | refine W.exit rfl ?_ | refine z_l (kk := ?_) | refine z_f (kk := ?_) | refine z_M (kk := ?_) | refine z_m (kk := ?_) | refine z_e (kk := ?_) | refine z_E (kk := ?_) | refine z_d (kk := ?_) | refine z_I (kk := fun _ => ?_) | refine z_J (kk := fun _ => ?_) | refine z_K (kk := fun _ => ?_) | refine z_L (kk := fun _ => ?_) | refine z_T (kk := ?_) | refine z_F (kk := ?_) | refine z_k (kk := fun _ _ _ _ _ => ?_) | refine z_w (kk := fun _ _ => ?_) | refine z_s (kk := fun _ _ _ _ => ?_) | refine z_D (kk := ?_) | refine z_g (kk := ?_) | refine z_h (kk := ?_)))
      refine W.fret rfl ⟨?_, hb1⟩
      rw [decide_eq_true]
      · rfl
      · apply List.ext_getElem hle
        intro j h1 h2
        have := hn j h1
        simpa [List.getD_eq_getElem?_getD, h1, h2] using this
  · refine W.condT rfl (by first | rfl | assumption | (simp only [bnf] <;> omega) | (simp only [*, bnf]; done) | fail) ?_
    (repeat (first | with_reducible refine W.seq ?_ | with_reducible refine Ops.nil ?_ | with_reducible refine W.region ?_ | refine z_p (kk := ?_) | refine z_a (kk := ?_) | refine z_y (kk := ?_) | refine z_n (kk := ?_) | refine z_u (kk := ?_) | with_reducible refine W.skip ?_ | with_reducible refine W.endb ?_ | with_reducible refine W.block ?_ | refine W.exit rfl ?_ | refine z_l (kk := ?_) | refine z_f (kk := ?_) | refine z_M (kk := ?_) | refine z_m (kk := ?_) | refine z_e (kk := ?_) | refine z_E (kk := ?_) | refine z_d (kk := ?_) | refine z_I (kk := fun _ => ?_) | refine z_J (kk := fun _ => ?_) | refine z_K (kk := fun _ => ?_) | refine z_L (kk := fun _ => ?_) | refine z_T (kk := ?_) | refine z_F (kk := ?_) | refine z_k (kk := fun _ _ _ _ _ => ?_) | refine z_w (kk := fun _ _ => ?_) | refine z_s (kk := fun _ _ _ _ => ?_) | refine z_D (kk := ?_) | refine z_g (kk := ?_) | refine z_h (kk := ?_)))
    refine W.fret rfl ⟨?_, Below.refl _ _⟩
    rw [decide_eq_false]
    · rfl
    · intro h; exact hle (by rw [h])
end Go.Proofs.Ytdiljpnfochndaa
namespace Go.Proofs.Ytdiljpnfochndaa
open Go Go.RowKit Go.Proofs.Ytdiljpnfochndaa.VW
open Go.Proofs.Ytdiljpnfochndaa.HP (Nd kid wor leafB rd evB gameOf gameOf_TF TF TK ValP k_ PI PlanS)
attribute [local irreducible] W Ops OrdA VW.Ord OrdX Wi OpsI
def chk (l : List Nd) (xs : List Int) (i : Int) : Int := if rd xs i ∈ kid l i then rd xs i else (kid l i).getD 0 0
theorem check1_c {wB w : World} {b1 b2 b3 : Nat} {tv xv : Value} {l : List Nd} {dep xs : List Int} {q : Bool} (hT : TF l dep) (h1 : Blk wB b1 #[tv] 22) (hTr : TreeM wB tv l) (h2 : Blk wB b2 #[xv] 24) (hX : SlI wB xv xs) (hxl : xs.length = l.length) (hb0 : Below wB.heap.size wB w) (hb3 : wB.heap.size ≤ b3) (h3 : Blk w b3 #[.bool q] 4)
    (i : Nat) (hi : i < l.length) (hlf : leafB l i = false) :
    Calls Try.prog 81 #[.int .i64 i, .pointer (some ⟨b1, 0, none⟩), .pointer (some ⟨b2, 0, none⟩), .pointer (some ⟨b3, 0, none⟩)] w (Ret fun v w' => v = .int .i64 (chk l xs i) ∧ Below wB.heap.size wB w' ∧ Kp (fun k => k = b3) w w' ∧ Blk w' b3 #[.bool (q && decide (rd xs i ∈ kid l i))] 4) := by
  obtain ⟨At, ct, rfl⟩ := hTr.sl
  obtain ⟨Ax, cx, rfl⟩ := Sl.sl hX
  have hkl := hT.klen i hi
  have hn60 := hT.n60
  have hk0 : 0 < (kid l i).length := by unfold leafB at hlf; cases hk : kid l i with | nil => rw [hk] at hlf; simp at hlf | cons _ _ => simp
  have hrd : rd xs i = xs.getD i 0 := rfl
  refine calls_W (vs := [_, _, _, _]) Try.func81 rfl (by kernel_rfl) rfl ?_
  (repeat (first | with_reducible refine W.seq ?_ | with_reducible refine Ops.nil ?_ | with_reducible refine W.region ?_ | refine z_p (kk := ?_) | refine z_a (kk := ?_) | refine z_y (kk := ?_) | refine z_n (kk := ?_) | refine z_u (kk := ?_) | with_reducible refine W.skip ?_ | with_reducible refine W.endb ?_ | with_reducible refine W.block ?_ | refine W.exit rfl ?_ | refine z_l (kk := ?_) | refine z_f (kk := ?_) | refine z_M (kk := ?_) | refine z_m (kk := ?_) | refine z_e (kk := ?_) | refine z_E (kk := ?_) | refine z_d (kk := ?_) | refine z_I (kk := fun _ => ?_) | refine z_J (kk := fun _ => ?_) | refine z_K (kk := fun _ => ?_) | refine z_L (kk := fun _ => ?_) | refine z_T (kk := ?_) | refine z_F (kk := ?_) | refine z_k (kk := fun _ _ _ _ _ => ?_) | refine z_w (kk := fun _ _ => ?_) | refine z_s (kk := fun _ _ _ _ => ?_) | refine z_D (kk := ?_) | refine z_g (kk := ?_) | refine z_h (kk := ?_)))
  refine W.ordA 99 [(0, 2), (1, 1), (2, 1), (3, 1), (4, 2), (5, 2), (6, 1), (7, 1), (8, 2), (9, 2), (10, 1)] rfl (by kernel_rfl) rfl (by kernel_rfl) (fun _ _ _ h => h) ?_
  (repeat (first | refine x_p (kk := ?_) | refine x_n (kk := ?_) | refine x_a (kk := ?_) | refine x_l (kk := ?_) | refine x_M (kk := ?_) | refine x_m (kk := ?_) | refine x_e (kk := ?_) | refine x_E (kk := ?_) | refine x_T (kk := ?_) | refine x_F (kk := ?_) | refine x_I (kk := fun _ => ?_) | refine x_J (kk := fun _ => ?_) | refine x_K (kk := fun _ => ?_) | refine x_L (kk := fun _ => ?_) | refine x_k (kk := fun _ _ _ _ _ => ?_) | refine x_w (kk := fun _ _ => ?_) | refine x_s (kk := fun _ _ _ _ => ?_) | refine x_D (kk := ?_) | refine x_t (kk := ?_) | refine x_f (kk := ?_)))
  refine OrdA.call rfl rfl rfl rfl rfl rfl rfl (fun w' hw' => (contains_c (xs := kid l i) (Sl.below (by assumption) (Below.via hb0 hw')) (by omega)).mono fun e w'' ⟨v, he, hv⟩ => ⟨v, he, hv.1, by rw [hv.2]; exact hw'⟩) ?_
  (repeat (first | refine x_p (kk := ?_) | refine x_n (kk := ?_) | refine x_a (kk := ?_) | refine x_l (kk := ?_) | refine x_M (kk := ?_) | refine x_m (kk := ?_) | refine x_e (kk := ?_) | refine x_E (kk := ?_) | refine x_T (kk := ?_) | refine x_F (kk := ?_) | refine x_I (kk := fun _ => ?_) | refine x_J (kk := fun _ => ?_) | refine x_K (kk := fun _ => ?_) | refine x_L (kk := fun _ => ?_) | refine x_k (kk := fun _ _ _ _ _ => ?_) | refine x_w (kk := fun _ _ => ?_) | refine x_s (kk := fun _ _ _ _ => ?_) | refine x_t (kk := ?_) | refine x_f (kk := ?_)))
  refine OrdA.nil (fun w4 hb4 => ?_)
  have h34 := h3.kp (Kp.of_below (S := fun _ => False) hb4) (fun e => e)
  have hb04 := Below.via hb0 hb4
  rw [hrd]
  by_cases hm : xs.getD i 0 ∈ kid l i
  · rw [decide_eq_true hm]
    have hc : chk l xs i = xs.getD i 0 := by unfold chk; rw [hrd, if_pos hm]
    refine W.condF rfl rfl ?_
    (repeat (first | with_reducible refine W.seq ?_ | with_reducible refine Ops.nil ?_ | with_reducible refine W.region ?_ | refine z_p (kk := ?_) | refine z_a (kk := ?_) | refine z_y (kk := ?_) | refine z_n (kk := ?_) | refine z_u (kk := ?_) | with_reducible refine W.skip ?_ | with_reducible refine W.endb ?_ | with_reducible refine W.block ?_ | refine W.exit rfl ?_ | refine z_l (kk := ?_) | refine z_f (kk := ?_) | refine z_M (kk := ?_) | refine z_m (kk := ?_) | refine z_e (kk := ?_) | refine z_E (kk := ?_) | refine z_d (kk := ?_) | refine z_I (kk := fun _ => ?_) | refine z_J (kk := fun _ => ?_) | refine z_K (kk := fun _ => ?_) | refine z_L (kk := fun _ => ?_) | refine z_T (kk := ?_) | refine z_F (kk := ?_) | refine z_k (kk := fun _ _ _ _ _ => ?_) | refine z_w (kk := fun _ _ => ?_) | refine z_s (kk := fun _ _ _ _ => ?_) | refine z_D (kk := ?_) | refine z_g (kk := ?_) | refine z_h (kk := ?_)))
    exact W.fret rfl ⟨by rw [hc]; rfl, hb04, Kp.of_below hb4, by simpa using h34⟩
  · rw [decide_eq_false hm]
    have hc : chk l xs i = (kid l i).getD 0 0 := by unfold chk; rw [hrd, if_neg hm]
    refine W.condT rfl rfl ?_
    (repeat (first | with_reducible refine W.seq ?_ | with_reducible refine Ops.nil ?_ | with_reducible refine W.region ?_ | refine z_p (kk := ?_) | refine z_a (kk := ?_) | refine z_y (kk := ?_) | refine z_n (kk := ?_) | refine z_u (kk := ?_) | with_reducible refine W.skip ?_ | with_reducible refine W.endb ?_ | with_reducible refine W.block ?_ | refine W.exit rfl ?_ | refine z_l (kk := ?_) | refine z_f (kk := ?_) | refine z_M (kk := ?_) | refine z_m (kk := ?_) | refine z_e (kk := ?_) | refine z_E (kk := ?_) | refine z_d (kk := ?_) | refine z_I (kk := fun _ => ?_) | refine z_J (kk := fun _ => ?_) | refine z_K (kk := fun _ => ?_) | refine z_L (kk := fun _ => ?_) | refine z_T (kk := ?_) | refine z_F (kk := ?_) | refine z_k (kk := fun _ _ _ _ _ => ?_) | refine z_w (kk := fun _ _ => ?_) | refine z_s (kk := fun _ _ _ _ => ?_) | refine z_D (kk := ?_) | refine z_g (kk := ?_) | refine z_h (kk := ?_)))
    refine Ops.st rfl rfl rfl rfl rfl rfl rfl h34 (by simp) (fun w5 hu => ?_)
    have hb5 : Kp (fun k => k = b3) w w5 := ((Kp.of_below (S := fun k => k = b3) hb4).trans hu.kp).mono (by intro k _ h; rcases h with h | h <;> exact h)
    have hb05 : Below wB.heap.size wB w5 := Below.put hb04 hu.kp (fun k hk => by omega)
    refine Ops.nil ?_
    (repeat (first | with_reducible refine W.seq ?_ | with_reducible refine Ops.nil ?_ | with_reducible refine W.region ?_ | refine z_p (kk := ?_) | refine z_a (kk := ?_) | refine z_y (kk := ?_) | refine z_n (kk := ?_) | refine z_u (kk := ?_) | with_reducible refine W.skip ?_ | with_reducible refine W.endb ?_ | with_reducible refine W.block ?_ | refine W.exit rfl ?_ | refine z_l (kk := ?_) | refine z_f (kk := ?_) | refine z_M (kk := ?_) | refine z_m (kk := ?_) | refine z_e (kk := ?_) | refine z_E (kk := ?_) | refine z_d (kk := ?_) | refine z_I (kk := fun _ => ?_) | refine z_J (kk := fun _ => ?_) | refine z_K (kk := fun _ => ?_) | refine z_L (kk := fun _ => ?_) | refine z_T (kk := ?_) | refine z_F (kk := ?_) | refine z_k (kk := fun _ _ _ _ _ => ?_) | refine z_w (kk := fun _ _ => ?_) | refine z_s (kk := fun _ _ _ _ => ?_) | refine z_D (kk := ?_) | refine z_g (kk := ?_) | refine z_h (kk := ?_)))
    exact W.fret rfl ⟨by rw [hc]; rfl, hb05, hb5, by simpa using hu.blk⟩
end Go.Proofs.Ytdiljpnfochndaa
namespace Go.Proofs.Ytdiljpnfochndaa
open Go Go.RowKit Go.Proofs.Ytdiljpnfochndaa.VW
open Go.Proofs.Ytdiljpnfochndaa.HP (Nd kid wor leafB rd evB gameOf gameOf_TF TF TK ValP k_ PI PlanS Dn far kid_mem_at)
attribute [local irreducible] W Ops OrdA VW.Ord OrdX Wi OpsI
theorem RP.ex {l : List Nd} {dep : List Int} (hT : TF l dep) (ch : Int → Int) : ∃ bs, RP l dep ch l.length 0 bs := by
  have hn := hT.n1
  have h1 : ∀ i, i ≤ l.length → ∃ bs, RP l dep ch i 0 bs := by
    intro i
    induction i with
    | zero => exact fun _ => ⟨(List.replicate l.length false).set 0 true, by simp, bgetD_set_eq (by simp; omega), fun a b hd => by unfold Dn at hd; omega⟩
    | succ i ih =>
      intro hi
      obtain ⟨bs, h⟩ := ih (by omega)
      have h2 : ∀ j, j ≤ (kid l i).length → ∃ bs, RP l dep ch i j bs := by
        intro j
        induction j with
        | zero => exact fun _ => ⟨bs, h⟩
        | succ j ihj =>
          intro hj
          obtain ⟨bs, h⟩ := ihj (by omega)
          exact ⟨_, h.next hT (by omega) (by omega) rfl⟩
      obtain ⟨bs, h⟩ := h2 _ (Nat.le_refl _)
      exact ⟨bs, h.row⟩
  exact h1 _ (Nat.le_refl _)
theorem RP.same {l : List Nd} {dep : List Int} {ch : Int → Int} {i j : Nat} {bs bs' : List Bool} (hT : TF l dep) (h : RP l dep ch i j bs) (h' : RP l dep ch l.length 0 bs') : ∀ c : Nat, c ≤ i → c < l.length → bs.getD c false = bs'.getD c false := by
  intro c
  induction c using Nat.strongRecOn with
  | _ c ih =>
    intro hc hn
    by_cases e : c = 0
    · subst e; rw [h.r0, h'.r0]
    · obtain ⟨a, b, ha, hb, hk⟩ := hT.cov c (by omega) hn
      have hl := hT.kin a b ha hb
      have h1 := h.step a b (.inl (by omega)) hb
      have h2 := h'.step a b (.inl ha) hb
      rw [hk] at h1 h2
      simp only [Int.toNat_natCast] at h1 h2
      rw [h1, h2, ih a (by omega) (by omega) ha]
theorem st_uniq {l : List Nd} {dep : List Int} (hT : TF l dep) {f g : Int → Bool} (h0 : f 0 = g 0) (hs : ∀ a b : Nat, a < l.length → b < (kid l a).length → f a = g a → f (k_ l a b) = g (k_ l a b)) : ∀ c : Nat, c < l.length → f c = g c := by
  intro c
  induction c using Nat.strongRecOn with
  | _ c ih =>
    intro hn
    by_cases e : c = 0
    · subst e; exact h0
    · obtain ⟨a, b, ha, hb, hk⟩ := hT.cov c (by omega) hn
      have hl := hT.kin a b ha hb
      rw [← hk]
      exact hs a b ha hb (ih a (by omega) ha)
def okN (l : List Nd) (dep xs : List Int) (bs : List Bool) (i : Nat) : Bool := if bs.getD i false && evB dep i && !leafB l i then decide (rd xs i ∈ kid l i) else decide (rd xs i = -1)
def OkP (l : List Nd) (dep xs : List Int) (bs : List Bool) : Prop := ∀ i : Nat, i < l.length → okN l dep xs bs i = true
theorem inner_of_kid {l : List Nd} {a b : Nat} (hb : b < (kid l a).length) : leafB l a = false := by unfold leafB; cases hk : kid l a with | nil => rw [hk] at hb; simp at hb | cons _ _ => simp
theorem RP.fB {l : List Nd} {dep : List Int} {ch : Int → Int} {bs : List Bool} (h : RP l dep ch l.length 0 bs) {a b : Nat} (ha : a < l.length) (hb : b < (kid l a).length) (hT : TF l dep) : bs.getD (k_ l a b).toNat false = (bs.getD a false && (!evB dep a || decide (k_ l a b = ch a))) := h.step a b (.inl ha) hb
theorem plan_f {l : List Nd} {dep xs out : List Int} {bs : List Bool} {f : Int → Bool} (hT : TF l dep) (hbs : RP l dep (rd xs) l.length 0 bs) (hP : PlanS l dep (chk l xs) f out)
    (hr : ∀ i : Nat, i < l.length → f i = bs.getD i false → f i = true → evB dep i = true → leafB l i = false → rd xs i ∈ kid l i) : ∀ i : Nat, i < l.length → f i = bs.getD i false := by
  have := st_uniq hT (f := f) (g := fun c => bs.getD c.toNat false) (by rw [hP.r0]; exact hbs.r0.symm) (fun a b ha hb e => by
    have e' : f a = bs.getD a false := e
    show f (k_ l a b) = bs.getD (k_ l a b).toNat false
    rw [hP.step a b ha hb, hbs.fB ha hb hT, ← e']
    cases hf : f a with
    | false => rfl
    | true =>
      cases he : evB dep a with
      | false => rfl
      | true =>
        have hm := hr a ha e' hf he (inner_of_kid hb)
        unfold chk
        rw [if_pos hm])
  exact fun i hi => this i hi
theorem ok_of_plan {l : List Nd} {dep xs : List Int} {bs : List Bool} {f : Int → Bool} (hT : TF l dep) (hbs : RP l dep (rd xs) l.length 0 bs) (hP : PlanS l dep (chk l xs) f xs)
    (hr : ∀ i : Nat, i < l.length → f i = true → evB dep i = true → leafB l i = false → rd xs i ∈ kid l i) : OkP l dep xs bs := by
  have hf := plan_f hT hbs hP (fun i hi _ => hr i hi)
  intro i hi
  have hd := hP.done i hi
  have hrx : rd xs i = xs.getD i 0 := rfl
  unfold okN
  rw [← hf i hi]
  split
  · rename_i h
    simp only [Bool.and_eq_true, Bool.not_eq_true'] at h
    exact decide_eq_true (hr i hi h.1.1 h.1.2 h.2)
  · rename_i h
    rw [if_neg h] at hd
    exact decide_eq_true (by rw [hrx, hd])
theorem plan_of_ok {l : List Nd} {dep xs out : List Int} {bs : List Bool} {f : Int → Bool} (hT : TF l dep) (hbs : RP l dep (rd xs) l.length 0 bs) (hP : PlanS l dep (chk l xs) f out) (hok : OkP l dep xs bs) (hxl : xs.length = l.length) :
    out = xs ∧ (∀ i : Nat, i < l.length → f i = bs.getD i false) ∧ ∀ i : Nat, i < l.length → f i = true → evB dep i = true → leafB l i = false → rd xs i ∈ kid l i := by
  have hr : ∀ i : Nat, i < l.length → f i = bs.getD i false → f i = true → evB dep i = true → leafB l i = false → rd xs i ∈ kid l i := fun i hi e h1 h2 h3 => by
    have := hok i hi
    unfold okN at this
    rw [← e, h1, h2, h3, if_pos (by rfl)] at this
    exact of_decide_eq_true this
  have hf := plan_f hT hbs hP hr
  refine ⟨?_, hf, fun i hi => hr i hi (hf i hi)⟩
  apply List.ext_getElem (by rw [hP.len, hxl])
  intro j h1 h2
  have hj : j < l.length := by omega
  have hd := hP.done j hj
  have ho := hok j hj
  have hrx : rd xs j = xs.getD j 0 := rfl
  unfold okN at ho
  rw [← hf j hj] at ho
  have e1 : out.getD j 0 = out[j] := by simp [List.getD_eq_getElem?_getD, h1]
  have e2 : xs.getD j 0 = xs[j] := by simp [List.getD_eq_getElem?_getD, h2]
  rw [← e1, ← e2, hd]
  split
  · rename_i h
    rw [if_pos h] at ho
    have hm := of_decide_eq_true ho
    unfold chk
    rw [if_pos hm]
    rfl
  · rename_i h
    rw [if_neg h] at ho
    have hm := of_decide_eq_true ho
    rw [← hrx, hm]
def lst (l : List Nd) (f : Nat → Bool) (z : Int) : Nat → Int
  | 0 => z
  | i + 1 => if f i && leafB l i then min (lst l f z i) (wor l i) else lst l f z i
theorem lst_congr {l : List Nd} {f g : Nat → Bool} {z : Int} : ∀ {i : Nat}, (∀ j : Nat, j < i → f j = g j) → lst l f z i = lst l g z i
  | 0, _ => rfl
  | i + 1, h => by simp only [lst]; rw [h i (by omega), lst_congr (fun j hj => h j (by omega))]
theorem lst_far {l : List Nd} {dep : List Int} (hT : TF l dep) {f : Nat → Bool} : ∀ i : Nat, i ≤ l.length → ((∃ j : Nat, j < i ∧ (f j && leafB l j) = true) → lst l f far i = lst l f 1000000 i) ∧ ((¬ ∃ j : Nat, j < i ∧ (f j && leafB l j) = true) → lst l f far i = far ∧ lst l f 1000000 i = 1000000)
  | 0, _ => ⟨fun ⟨j, h, _⟩ => by omega, fun _ => ⟨rfl, rfl⟩⟩
  | i + 1, hi => by
    obtain ⟨h1, h2⟩ := lst_far hT (f := f) i (by omega)
    obtain ⟨w1, w2, _⟩ := hT.wor i (by omega)
    simp only [lst]
    refine ⟨fun ⟨j, hj, hl⟩ => ?_, fun h => ?_⟩
    · by_cases he : ∃ j : Nat, j < i ∧ (f j && leafB l j) = true
      · rw [h1 he]
      · obtain ⟨e1, e2⟩ := h2 he
        have : j = i := by
          rcases Nat.lt_or_ge j i with h | h
          · exact absurd ⟨j, h, hl⟩ he
          · omega
        subst this
        rw [if_pos hl, if_pos hl, e1, e2]
        unfold far
        omega
    · have hn : ¬ (f i && leafB l i) = true := fun e => h ⟨i, by omega, e⟩
      rw [if_neg hn, if_neg hn]
      exact h2 fun ⟨j, hj, e⟩ => h ⟨j, by omega, e⟩
theorem reach_leaf {l : List Nd} {dep xs : List Int} {bs : List Bool} (hT : TF l dep) (hbs : RP l dep (rd xs) l.length 0 bs) (hok : OkP l dep xs bs) : ∃ j : Nat, j < l.length ∧ (bs.getD j false && leafB l j) = true := by
  have key : ∀ d i : Nat, l.length - i = d → i < l.length → bs.getD i false = true → ∃ j : Nat, j < l.length ∧ (bs.getD j false && leafB l j) = true := by
    intro d
    induction d using Nat.strongRecOn with
    | _ d ih =>
      intro i hd hi hb
      cases hl : leafB l i with
      | true => exact ⟨i, hi, by rw [hb, hl]; rfl⟩
      | false =>
        have hstep : ∀ b : Nat, b < (kid l i).length → (evB dep i = true → k_ l i b = rd xs i) → ∃ j : Nat, j < l.length ∧ (bs.getD j false && leafB l j) = true := fun b hbk he => by
          have hk := hT.kin i b hi hbk
          have hs := hbs.fB hi hbk hT
          rw [hb] at hs
          refine ih (l.length - (k_ l i b).toNat) (by omega) (k_ l i b).toNat rfl (by omega) ?_
          rw [hs]
          cases hev : evB dep i with
          | false => rfl
          | true => simp [he hev]
        cases hev : evB dep i with
        | true =>
          have := hok i hi
          unfold okN at this
          rw [hb, hev, hl, if_pos (by rfl)] at this
          obtain ⟨b, hbk, e⟩ := kid_mem_at (of_decide_eq_true this)
          exact hstep b hbk fun _ => e
        | false =>
          have : 0 < (kid l i).length := by unfold leafB at hl; cases hk : kid l i with | nil => rw [hk] at hl; simp at hl | cons _ _ => simp
          exact hstep 0 this fun h => by rw [hev] at h; cases h
  exact key _ 0 rfl hT.n1 hbs.r0
end Go.Proofs.Ytdiljpnfochndaa
namespace Go.Proofs.Ytdiljpnfochndaa
open Go Go.RowKit Go.Proofs.Ytdiljpnfochndaa.VW
open Go.Proofs.Ytdiljpnfochndaa.HP (Nd kid wor leafB rd evB gameOf gameOf_TF TF TK ValP k_ PI PlanS Dn far kid_mem_at)
attribute [local irreducible] W Ops OrdA VW.Ord OrdX Wi OpsI
/-- One of the first j children of node i is what the plan says. -/
def hold (l : List Nd) (xs : List Int) (i : Nat) : Nat → Bool
  | 0 => false
  | j + 1 => hold l xs i j || decide (k_ l i j = rd xs i)
theorem hold_iff {l : List Nd} {xs : List Int} {i : Nat} : ∀ j : Nat, j ≤ (kid l i).length → (hold l xs i j = true ↔ ∃ b : Nat, b < j ∧ k_ l i b = rd xs i)
  | 0, _ => by simp [hold]
  | j + 1, h => by
    simp only [hold, Bool.or_eq_true, decide_eq_true_eq]
    rw [hold_iff j (by omega)]
    constructor
    · rintro (⟨b, hb, e⟩ | e)
      · exact ⟨b, by omega, e⟩
      · exact ⟨j, by omega, e⟩
    · rintro ⟨b, hb, e⟩
      by_cases ej : b = j
      · subst ej; exact .inr e
      · exact .inl ⟨b, by omega, e⟩
theorem hold_mem {l : List Nd} {xs : List Int} {i : Nat} : hold l xs i (kid l i).length = decide (rd xs i ∈ kid l i) := by
  rw [Bool.eq_iff_iff, hold_iff _ (Nat.le_refl _), decide_eq_true_eq]
  constructor
  · rintro ⟨b, hb, e⟩
    rw [← e]
    unfold k_
    rw [List.getD_eq_getElem?_getD, List.getElem?_eq_getElem hb]
    simp
  · intro h
    exact kid_mem_at h
set_option maxHeartbeats 4000000 in
theorem guar_c {w : World} {v sv : Value} {l : List Nd} {dep xs : List Int} {bsF : List Bool} (hTr : TreeM w v l) (hT : TF l dep) (hS : SlI w sv xs) (hxn : xs.length ≤ 1000) (hbsF : RP l dep (rd xs) l.length 0 bsF) :
    Calls Try.prog 49 #[v, sv] w (Ret fun r w' => Below w.heap.size w w' ∧ ((xs.length = l.length ∧ OkP l dep xs bsF ∧ r = .tuple #[.int .i64 (lst l (fun i => bsF.getD i false) 1000000 l.length), .bool true]) ∨ (¬ (xs.length = l.length ∧ OkP l dep xs bsF) ∧ r = .tuple #[.int .i64 0, .bool false]))) := by
  obtain ⟨At, ct, rfl⟩ := hTr.sl
  obtain ⟨Ax, cx, rfl⟩ := Sl.sl hS
  have hn1 := hT.n1
  have hn60 := hT.n60
  refine calls_W (vs := [_, _]) Try.func49 rfl (by kernel_rfl) rfl ?_
  (repeat (first | with_reducible refine W.seq ?_ | with_reducible refine Ops.nil ?_ | with_reducible refine W.region ?_ | refine z_p (kk := ?_) | refine z_a (kk := ?_) | refine z_y (kk := ?_) | refine z_n (kk := ?_) | refine z_u (kk := ?_) | with_reducible refine W.skip ?_ | with_reducible refine W.endb ?_ | with_reducible refine W.block ?_ | refine W.exit rfl ?_ | refine z_l (kk := ?_) | refine z_f (kk := ?_) | refine z_M (kk := ?_) | refine z_m (kk := ?_) | refine z_e (kk := ?_) | refine z_E (kk := ?_) | refine z_d (kk := ?_) | refine z_I (kk := fun _ => ?_) | refine z_J (kk := fun _ => ?_) | refine z_K (kk := fun _ => ?_) | refine z_L (kk := fun _ => ?_) | refine z_T (kk := ?_) | refine z_F (kk := ?_) | refine z_k (kk := fun _ _ _ _ _ => ?_) | refine z_w (kk := fun _ _ => ?_) | refine z_s (kk := fun _ _ _ _ => ?_) | refine z_D (kk := ?_) | refine z_g (kk := ?_) | refine z_h (kk := ?_)))
  by_cases hxl : xs.length = l.length
  · refine W.condF rfl (by first | rfl | assumption | (simp only [bnf] <;> omega) | (simp only [*, bnf]; done) | fail) ?_
    (repeat (first | with_reducible refine W.seq ?_ | with_reducible refine Ops.nil ?_ | with_reducible refine W.region ?_ | refine z_p (kk := ?_) | refine z_a (kk := ?_) | refine z_y (kk := ?_) | refine z_n (kk := ?_) | refine z_u (kk := ?_) | with_reducible refine W.skip ?_ | with_reducible refine W.endb ?_ | with_reducible refine W.block ?_ | refine W.exit rfl ?_ | refine z_l (kk := ?_) | refine z_f (kk := ?_) | refine z_M (kk := ?_) | refine z_m (kk := ?_) | refine z_e (kk := ?_) | refine z_E (kk := ?_) | refine z_d (kk := ?_) | refine z_I (kk := fun _ => ?_) | refine z_J (kk := fun _ => ?_) | refine z_K (kk := fun _ => ?_) | refine z_L (kk := fun _ => ?_) | refine z_T (kk := ?_) | refine z_F (kk := ?_) | refine z_k (kk := fun _ _ _ _ _ => ?_) | refine z_w (kk := fun _ _ => ?_) | refine z_s (kk := fun _ _ _ _ => ?_) | refine z_D (kk := ?_) | refine z_g (kk := ?_) | refine z_h (kk := ?_)))
    refine Ops.call rfl rfl rfl rfl rfl (even_c hTr hT) (fun r w1 hR => ?_)
    obtain ⟨es, hE, hel, hev⟩ := hR
    have hb1 := hE.bel
    have hT1 := hTr.below hb1
    have hS1 := Sl.below hS hb1
    have hE1 : SlB w1 r es := hE.sl
    obtain ⟨Ae, ce, rfl⟩ := Sl.sl hE1
    clear hE hTr hS
    (repeat (first | with_reducible refine W.seq ?_ | with_reducible refine Ops.nil ?_ | with_reducible refine W.region ?_ | refine z_p (kk := ?_) | refine z_a (kk := ?_) | refine z_y (kk := ?_) | refine z_n (kk := ?_) | refine z_u (kk := ?_) | with_reducible refine W.skip ?_ | with_reducible refine W.endb ?_ | with_reducible refine W.block ?_ | refine W.exit rfl ?_ | refine z_l (kk := ?_) | refine z_f (kk := ?_) | refine z_M (kk := ?_) | refine z_m (kk := ?_) | refine z_e (kk := ?_) | refine z_E (kk := ?_) | refine z_d (kk := ?_) | refine z_I (kk := fun _ => ?_) | refine z_J (kk := fun _ => ?_) | refine z_K (kk := fun _ => ?_) | refine z_L (kk := fun _ => ?_) | refine z_T (kk := ?_) | refine z_F (kk := ?_) | refine z_k (kk := fun _ _ _ _ _ => ?_) | refine z_w (kk := fun _ _ => ?_) | refine z_s (kk := fun _ _ _ _ => ?_) | refine z_D (kk := ?_) | refine z_g (kk := ?_) | refine z_h (kk := ?_)))
    refine Ops.mkO (w0 := w1) Value.bool false rfl rfl rfl rfl rfl rfl rfl rfl rfl (by omega) rfl (Below.refl _ _) (fun w3 dr hO3 k3 _ => ?_)
    have hlr : (List.replicate l.length false).length = l.length := by simp
    have hP4 : RP l dep (rd xs) 0 0 ((List.replicate l.length false).set 0 true) := ⟨by simp, bgetD_set_eq (by simp; omega), fun a b hd => by unfold Dn at hd; omega⟩
    generalize List.replicate l.length false = os3 at *
    (repeat (first | with_reducible refine W.seq ?_ | with_reducible refine Ops.nil ?_ | with_reducible refine W.region ?_ | refine z_p (kk := ?_) | refine z_a (kk := ?_) | refine z_y (kk := ?_) | refine z_n (kk := ?_) | refine z_u (kk := ?_) | with_reducible refine W.skip ?_ | with_reducible refine W.endb ?_ | with_reducible refine W.block ?_ | refine W.exit rfl ?_ | refine z_l (kk := ?_) | refine z_f (kk := ?_) | refine z_M (kk := ?_) | refine z_m (kk := ?_) | refine z_e (kk := ?_) | refine z_E (kk := ?_) | refine z_d (kk := ?_) | refine z_I (kk := fun _ => ?_) | refine z_J (kk := fun _ => ?_) | refine z_K (kk := fun _ => ?_) | refine z_L (kk := fun _ => ?_) | refine z_T (kk := ?_) | refine z_F (kk := ?_) | refine z_k (kk := fun _ _ _ _ _ => ?_) | refine z_w (kk := fun _ _ => ?_) | refine z_s (kk := fun _ _ _ _ => ?_) | refine z_D (kk := ?_) | refine z_g (kk := ?_) | refine z_h (kk := ?_)))
    refine Ops.wrO (i := 0) (enc := Value.bool) rfl rfl rfl rfl rfl rfl rfl rfl rfl rfl rfl rfl (by simp) rfl hO3 (by omega) (fun w4 _ hO4 k4 _ => ?_)
    generalize os3.set 0 true = os4 at *
    clear hO3
    (repeat (first | with_reducible refine W.seq ?_ | with_reducible refine Ops.nil ?_ | with_reducible refine W.region ?_ | refine z_p (kk := ?_) | refine z_a (kk := ?_) | refine z_y (kk := ?_) | refine z_n (kk := ?_) | refine z_u (kk := ?_) | with_reducible refine W.skip ?_ | with_reducible refine W.endb ?_ | with_reducible refine W.block ?_ | refine W.exit rfl ?_ | refine z_l (kk := ?_) | refine z_f (kk := ?_) | refine z_M (kk := ?_) | refine z_m (kk := ?_) | refine z_e (kk := ?_) | refine z_E (kk := ?_) | refine z_d (kk := ?_) | refine z_I (kk := fun _ => ?_) | refine z_J (kk := fun _ => ?_) | refine z_K (kk := fun _ => ?_) | refine z_L (kk := fun _ => ?_) | refine z_T (kk := ?_) | refine z_F (kk := ?_) | refine z_k (kk := fun _ _ _ _ _ => ?_) | refine z_w (kk := fun _ _ => ?_) | refine z_s (kk := fun _ _ _ _ => ?_) | refine z_D (kk := ?_) | refine z_g (kk := ?_) | refine z_h (kk := ?_)))
    refine W.loop (fun m ρ w5 => ∃ (i : Nat) (bs : List Bool), m = l.length - i ∧ i ≤ l.length ∧ ρ = [(0, .slice At l.length ct), (1, .slice Ax xs.length cx), (6, .slice Ae es.length ce), (7, .slice (some ⟨dr, 0, none⟩) l.length l.length), (8, .int .i64 (lst l (fun i => bsF.getD i false) 1000000 i)), (9, .int .i64 i)] ∧ OI 4 Value.bool w1 w5 (.slice (some ⟨dr, 0, none⟩) l.length l.length) bs ∧ RP l dep (rd xs) i 0 bs ∧ ∀ j : Nat, j < i → okN l dep xs bsF j = true)
      ⟨_, _, ⟨0, _, rfl, Nat.zero_le _, rfl, hO4, hP4, fun j hj => by omega⟩, (by repeat (first | exact trivial | refine And.intro rfl ?_))⟩ ?_
    clear hO4 hP4
    rintro m ρ w5 ⟨i, bs, rfl, hi, rfl, hB, hP, hok⟩
    have hb5 := hB.bel
    have hbl := hP.len
    (repeat (first | with_reducible refine W.seq ?_ | with_reducible refine Ops.nil ?_ | with_reducible refine W.region ?_ | refine z_p (kk := ?_) | refine z_a (kk := ?_) | refine z_y (kk := ?_) | refine z_n (kk := ?_) | refine z_u (kk := ?_) | with_reducible refine W.skip ?_ | with_reducible refine W.endb ?_ | with_reducible refine W.block ?_ | refine W.exit rfl ?_ | refine z_l (kk := ?_) | refine z_f (kk := ?_) | refine z_M (kk := ?_) | refine z_m (kk := ?_) | refine z_e (kk := ?_) | refine z_E (kk := ?_) | refine z_d (kk := ?_) | refine z_I (kk := fun _ => ?_) | refine z_J (kk := fun _ => ?_) | refine z_K (kk := fun _ => ?_) | refine z_L (kk := fun _ => ?_) | refine z_T (kk := ?_) | refine z_F (kk := ?_) | refine z_k (kk := fun _ _ _ _ _ => ?_) | refine z_w (kk := fun _ _ => ?_) | refine z_s (kk := fun _ _ _ _ => ?_) | refine z_D (kk := ?_) | refine z_g (kk := ?_) | refine z_h (kk := ?_)))
    (first | refine W.condD rfl (fun hc => ?_) (fun hc => ?_) | refine W.condE rfl (fun hc => ?_) (fun hc => ?_) | refine W.condN rfl (fun hc => ?_) (fun hc => ?_) | refine W.cond rfl (fun hc => ?_) (fun hc => ?_))
    · have hil : i < l.length := by omega
      have hevi := hev i hil
      have hkl := hT.klen i hil
      have hsame := hP.same hT hbsF i (Nat.le_refl _) hil
      have hlfk : leafB l i = decide ((kid l i).length = 0) := by unfold leafB; cases kid l i <;> simp
      (repeat (first | with_reducible refine W.seq ?_ | with_reducible refine Ops.nil ?_ | with_reducible refine W.region ?_ | refine z_p (kk := ?_) | refine z_a (kk := ?_) | refine z_y (kk := ?_) | refine z_n (kk := ?_) | refine z_u (kk := ?_) | with_reducible refine W.skip ?_ | with_reducible refine W.endb ?_ | with_reducible refine W.block ?_ | refine W.exit rfl ?_ | refine z_l (kk := ?_) | refine z_f (kk := ?_) | refine z_M (kk := ?_) | refine z_m (kk := ?_) | refine z_e (kk := ?_) | refine z_E (kk := ?_) | refine z_d (kk := ?_) | refine z_I (kk := fun _ => ?_) | refine z_J (kk := fun _ => ?_) | refine z_K (kk := fun _ => ?_) | refine z_L (kk := fun _ => ?_) | refine z_T (kk := ?_) | refine z_F (kk := ?_) | refine z_k (kk := fun _ _ _ _ _ => ?_) | refine z_w (kk := fun _ _ => ?_) | refine z_s (kk := fun _ _ _ _ => ?_) | refine z_D (kk := ?_) | refine z_g (kk := ?_) | refine z_h (kk := ?_)))
      refine Ops.cut (fun ρ w' => ∃ b : Bool, b = (bs.getD i false && evB dep i && !leafB l i) ∧ ρ = [(0, .slice At l.length ct), (1, .slice Ax xs.length cx), (6, .slice Ae es.length ce), (7, .slice (some ⟨dr, 0, none⟩) l.length l.length), (8, .int .i64 (lst l (fun i => bsF.getD i false) 1000000 i)), (9, .int .i64 i), (10, .bool b)] ∧ Below w5.heap.size w5 w') ?_ ?_
      · cases hbi : bs.getD i false with
        | false =>
          (repeat (first | with_reducible refine W.seq ?_ | with_reducible refine Ops.nil ?_ | with_reducible refine W.region ?_ | refine z_p (kk := ?_) | refine z_a (kk := ?_) | refine z_y (kk := ?_) | refine z_n (kk := ?_) | refine z_u (kk := ?_) | with_reducible refine W.skip ?_ | with_reducible refine W.endb ?_ | with_reducible refine W.block ?_ | refine W.exit rfl ?_ | refine z_l (kk := ?_) | refine z_f (kk := ?_) | refine z_M (kk := ?_) | refine z_m (kk := ?_) | refine z_e (kk := ?_) | refine z_E (kk := ?_) | refine z_d (kk := ?_) | refine z_I (kk := fun _ => ?_) | refine z_J (kk := fun _ => ?_) | refine z_K (kk := fun _ => ?_) | refine z_L (kk := fun _ => ?_) | refine z_T (kk := ?_) | refine z_F (kk := ?_) | refine z_k (kk := fun _ _ _ _ _ => ?_) | refine z_w (kk := fun _ _ => ?_) | refine z_s (kk := fun _ _ _ _ => ?_) | refine z_D (kk := ?_) | refine z_g (kk := ?_) | refine z_h (kk := ?_)))
          refine W.endl ⟨_, ⟨_, ?_, rfl, Below.refl _ _⟩, (by repeat (first | exact trivial | refine And.intro rfl ?_))⟩
          simp
        | true =>
          cases hei : evB dep i with
          | false =>
            have hevi2 : es.getD i false = false := by rw [hevi, hei]
            (repeat (first | with_reducible refine W.seq ?_ | with_reducible refine Ops.nil ?_ | with_reducible refine W.region ?_ | refine z_p (kk := ?_) | refine z_a (kk := ?_) | refine z_y (kk := ?_) | refine z_n (kk := ?_) | refine z_u (kk := ?_) | with_reducible refine W.skip ?_ | with_reducible refine W.endb ?_ | with_reducible refine W.block ?_ | refine W.exit rfl ?_ | refine z_l (kk := ?_) | refine z_f (kk := ?_) | refine z_M (kk := ?_) | refine z_m (kk := ?_) | refine z_e (kk := ?_) | refine z_E (kk := ?_) | refine z_d (kk := ?_) | refine z_I (kk := fun _ => ?_) | refine z_J (kk := fun _ => ?_) | refine z_K (kk := fun _ => ?_) | refine z_L (kk := fun _ => ?_) | refine z_T (kk := ?_) | refine z_F (kk := ?_) | refine z_k (kk := fun _ _ _ _ _ => ?_) | refine z_w (kk := fun _ _ => ?_) | refine z_s (kk := fun _ _ _ _ => ?_) | refine z_D (kk := ?_) | refine z_g (kk := ?_) | refine z_h (kk := ?_)))
            refine W.endl ⟨_, ⟨_, ?_, rfl, Below.refl _ _⟩, (by repeat (first | exact trivial | refine And.intro rfl ?_))⟩
            simp
          | true =>
            have hevi2 : es.getD i false = true := by rw [hevi, hei]
            (repeat (first | with_reducible refine W.seq ?_ | with_reducible refine Ops.nil ?_ | with_reducible refine W.region ?_ | refine z_p (kk := ?_) | refine z_a (kk := ?_) | refine z_y (kk := ?_) | refine z_n (kk := ?_) | refine z_u (kk := ?_) | with_reducible refine W.skip ?_ | with_reducible refine W.endb ?_ | with_reducible refine W.block ?_ | refine W.exit rfl ?_ | refine z_l (kk := ?_) | refine z_f (kk := ?_) | refine z_M (kk := ?_) | refine z_m (kk := ?_) | refine z_e (kk := ?_) | refine z_E (kk := ?_) | refine z_d (kk := ?_) | refine z_I (kk := fun _ => ?_) | refine z_J (kk := fun _ => ?_) | refine z_K (kk := fun _ => ?_) | refine z_L (kk := fun _ => ?_) | refine z_T (kk := ?_) | refine z_F (kk := ?_) | refine z_k (kk := fun _ _ _ _ _ => ?_) | refine z_w (kk := fun _ _ => ?_) | refine z_s (kk := fun _ _ _ _ => ?_) | refine z_D (kk := ?_) | refine z_g (kk := ?_) | refine z_h (kk := ?_)))
            refine Ops.call rfl rfl rfl rfl rfl (leaf_c (Sl.below (by assumption) hb5) rfl) (fun r w6 hR => ?_)
            obtain ⟨rfl, hb6⟩ := hR
            cases hlf : leafB l i with
            | true =>
              have hk0 : (kid l i).length = 0 := of_decide_eq_true (by rw [← hlfk]; exact hlf)
              (repeat (first | with_reducible refine W.seq ?_ | with_reducible refine Ops.nil ?_ | with_reducible refine W.region ?_ | refine z_p (kk := ?_) | refine z_a (kk := ?_) | refine z_y (kk := ?_) | refine z_n (kk := ?_) | refine z_u (kk := ?_) | with_reducible refine W.skip ?_ | with_reducible refine W.endb ?_ | with_reducible refine W.block ?_ | refine W.exit rfl ?_ | refine z_l (kk := ?_) | refine z_f (kk := ?_) | refine z_M (kk := ?_) | refine z_m (kk := ?_) | refine z_e (kk := ?_) | refine z_E (kk := ?_) | refine z_d (kk := ?_) | refine z_I (kk := fun _ => ?_) | refine z_J (kk := fun _ => ?_) | refine z_K (kk := fun _ => ?_) | refine z_L (kk := fun _ => ?_) | refine z_T (kk := ?_) | refine z_F (kk := ?_) | refine z_k (kk := fun _ _ _ _ _ => ?_) | refine z_w (kk := fun _ _ => ?_) | refine z_s (kk := fun _ _ _ _ => ?_) | refine z_D (kk := ?_) | refine z_g (kk := ?_) | refine z_h (kk := ?_)))
              refine W.endl ⟨_, ⟨_, ?_, rfl, hb6⟩, (by repeat (first | exact trivial | refine And.intro rfl ?_))⟩
              simp [hk0]
            | false =>
              have hk0 : ¬ (kid l i).length = 0 := of_decide_eq_false (by rw [← hlfk]; exact hlf)
              (repeat (first | with_reducible refine W.seq ?_ | with_reducible refine Ops.nil ?_ | with_reducible refine W.region ?_ | refine z_p (kk := ?_) | refine z_a (kk := ?_) | refine z_y (kk := ?_) | refine z_n (kk := ?_) | refine z_u (kk := ?_) | with_reducible refine W.skip ?_ | with_reducible refine W.endb ?_ | with_reducible refine W.block ?_ | refine W.exit rfl ?_ | refine z_l (kk := ?_) | refine z_f (kk := ?_) | refine z_M (kk := ?_) | refine z_m (kk := ?_) | refine z_e (kk := ?_) | refine z_E (kk := ?_) | refine z_d (kk := ?_) | refine z_I (kk := fun _ => ?_) | refine z_J (kk := fun _ => ?_) | refine z_K (kk := fun _ => ?_) | refine z_L (kk := fun _ => ?_) | refine z_T (kk := ?_) | refine z_F (kk := ?_) | refine z_k (kk := fun _ _ _ _ _ => ?_) | refine z_w (kk := fun _ _ => ?_) | refine z_s (kk := fun _ _ _ _ => ?_) | refine z_D (kk := ?_) | refine z_g (kk := ?_) | refine z_h (kk := ?_)))
              refine W.endl ⟨_, ⟨_, ?_, rfl, hb6⟩, (by repeat (first | exact trivial | refine And.intro rfl ?_))⟩
              simp [hk0]
      rintro ρ w6 ⟨pl, hpl, rfl, hb6⟩
      have hB6 := hB.below hb6
      clear hB hb6 hb5
      (repeat (first | with_reducible refine W.seq ?_ | with_reducible refine Ops.nil ?_ | with_reducible refine W.region ?_ | refine z_p (kk := ?_) | refine z_a (kk := ?_) | refine z_y (kk := ?_) | refine z_n (kk := ?_) | refine z_u (kk := ?_) | with_reducible refine W.skip ?_ | with_reducible refine W.endb ?_ | with_reducible refine W.block ?_ | refine W.exit rfl ?_ | refine z_l (kk := ?_) | refine z_f (kk := ?_) | refine z_M (kk := ?_) | refine z_m (kk := ?_) | refine z_e (kk := ?_) | refine z_E (kk := ?_) | refine z_d (kk := ?_) | refine z_I (kk := fun _ => ?_) | refine z_J (kk := fun _ => ?_) | refine z_K (kk := fun _ => ?_) | refine z_L (kk := fun _ => ?_) | refine z_T (kk := ?_) | refine z_F (kk := ?_) | refine z_k (kk := fun _ _ _ _ _ => ?_) | refine z_w (kk := fun _ _ => ?_) | refine z_s (kk := fun _ _ _ _ => ?_) | refine z_D (kk := ?_) | refine z_g (kk := ?_) | refine z_h (kk := ?_)))
      refine W.loop (fun m ρ w9 => ∃ (j : Nat) (cs : List Bool), m = (kid l i).length - j ∧ j ≤ (kid l i).length ∧ ρ = [(0, .slice At l.length ct), (1, .slice Ax xs.length cx), (6, .slice Ae es.length ce), (7, .slice (some ⟨dr, 0, none⟩) l.length l.length), (8, .int .i64 (lst l (fun i => bsF.getD i false) 1000000 i)), (9, .int .i64 i), (10, .bool pl), (11, .bool (hold l xs i j)), (12, .int .i64 j)] ∧ OI 4 Value.bool w1 w9 (.slice (some ⟨dr, 0, none⟩) l.length l.length) cs ∧ RP l dep (rd xs) i j cs ∧ ∀ q : Nat, q ≤ i → cs.getD q false = bs.getD q false)
        ⟨_, _, ⟨0, bs, rfl, Nat.zero_le _, rfl, hB6, hP, fun q _ => rfl⟩, (by repeat (first | exact trivial | refine And.intro rfl ?_))⟩ ?_
      clear hB6
      rintro m ρ w9 ⟨j, cs, rfl, hj, rfl, hB9, hP9, hsm⟩
      have hb9 := hB9.bel
      have hcl := hP9.len
      (repeat (first | with_reducible refine W.seq ?_ | with_reducible refine Ops.nil ?_ | with_reducible refine W.region ?_ | refine z_p (kk := ?_) | refine z_a (kk := ?_) | refine z_y (kk := ?_) | refine z_n (kk := ?_) | refine z_u (kk := ?_) | with_reducible refine W.skip ?_ | with_reducible refine W.endb ?_ | with_reducible refine W.block ?_ | refine W.exit rfl ?_ | refine z_l (kk := ?_) | refine z_f (kk := ?_) | refine z_M (kk := ?_) | refine z_m (kk := ?_) | refine z_e (kk := ?_) | refine z_E (kk := ?_) | refine z_d (kk := ?_) | refine z_I (kk := fun _ => ?_) | refine z_J (kk := fun _ => ?_) | refine z_K (kk := fun _ => ?_) | refine z_L (kk := fun _ => ?_) | refine z_T (kk := ?_) | refine z_F (kk := ?_) | refine z_k (kk := fun _ _ _ _ _ => ?_) | refine z_w (kk := fun _ _ => ?_) | refine z_s (kk := fun _ _ _ _ => ?_) | refine z_D (kk := ?_) | refine z_g (kk := ?_) | refine z_h (kk := ?_)))
      (first | refine W.condD rfl (fun hc => ?_) (fun hc => ?_) | refine W.condE rfl (fun hc => ?_) (fun hc => ?_) | refine W.condN rfl (fun hc => ?_) (fun hc => ?_) | refine W.cond rfl (fun hc => ?_) (fun hc => ?_))
      · have hjl : j < (kid l i).length := by omega
        have hkin := hT.kin i j hil hjl
        have hkn : (i : Int) < (kid l i).getD j 0 := hkin.1
        have hci := hsm i (Nat.le_refl _)
        have hst : ∀ x, x = (cs.getD i false && (!evB dep i || decide (k_ l i j = rd xs i))) → RP l dep (rd xs) i (j + 1) (cs.set ((kid l i).getD j 0).toNat x) ∧ ∀ q : Nat, q ≤ i → (cs.set ((kid l i).getD j 0).toNat x).getD q false = bs.getD q false := fun x hx =>
          ⟨hP9.next hT hil hjl hx, fun q hq => by rw [bgetD_set_ne (by omega)]; exact hsm q hq⟩
        have hk_ : k_ l i j = (kid l i).getD j 0 := rfl
        have hrx : rd xs i = xs.getD i 0 := rfl
        rw [hk_] at hkin hst
        (repeat (first | with_reducible refine W.seq ?_ | with_reducible refine Ops.nil ?_ | with_reducible refine W.region ?_ | refine z_p (kk := ?_) | refine z_a (kk := ?_) | refine z_y (kk := ?_) | refine z_n (kk := ?_) | refine z_u (kk := ?_) | with_reducible refine W.skip ?_ | with_reducible refine W.endb ?_ | with_reducible refine W.block ?_ | refine W.exit rfl ?_ | refine z_l (kk := ?_) | refine z_f (kk := ?_) | refine z_M (kk := ?_) | refine z_m (kk := ?_) | refine z_e (kk := ?_) | refine z_E (kk := ?_) | refine z_d (kk := ?_) | refine z_I (kk := fun _ => ?_) | refine z_J (kk := fun _ => ?_) | refine z_K (kk := fun _ => ?_) | refine z_L (kk := fun _ => ?_) | refine z_T (kk := ?_) | refine z_F (kk := ?_) | refine z_k (kk := fun _ _ _ _ _ => ?_) | refine z_w (kk := fun _ _ => ?_) | refine z_s (kk := fun _ _ _ _ => ?_) | refine z_D (kk := ?_) | refine z_g (kk := ?_) | refine z_h (kk := ?_)))
        refine Ops.cut (fun ρ w' => ρ = [(0, .slice At l.length ct), (1, .slice Ax xs.length cx), (6, .slice Ae es.length ce), (7, .slice (some ⟨dr, 0, none⟩) l.length l.length), (8, .int .i64 (lst l (fun i => bsF.getD i false) 1000000 i)), (9, .int .i64 i), (10, .bool pl), (11, .bool (hold l xs i (j + 1))), (12, .int .i64 j), (13, .int .i64 ((kid l i).getD j 0))] ∧ w' = w9) ?_ ?_
        · cases hh : hold l xs i j with
          | true =>
            have hs : hold l xs i (j + 1) = true := by simp only [hold, hh, Bool.true_or]
            rw [hs]
            (repeat (first | with_reducible refine W.seq ?_ | with_reducible refine Ops.nil ?_ | with_reducible refine W.region ?_ | refine z_p (kk := ?_) | refine z_a (kk := ?_) | refine z_y (kk := ?_) | refine z_n (kk := ?_) | refine z_u (kk := ?_) | with_reducible refine W.skip ?_ | with_reducible refine W.endb ?_ | with_reducible refine W.block ?_ | refine W.exit rfl ?_ | refine z_l (kk := ?_) | refine z_f (kk := ?_) | refine z_M (kk := ?_) | refine z_m (kk := ?_) | refine z_e (kk := ?_) | refine z_E (kk := ?_) | refine z_d (kk := ?_) | refine z_I (kk := fun _ => ?_) | refine z_J (kk := fun _ => ?_) | refine z_K (kk := fun _ => ?_) | refine z_L (kk := fun _ => ?_) | refine z_T (kk := ?_) | refine z_F (kk := ?_) | refine z_k (kk := fun _ _ _ _ _ => ?_) | refine z_w (kk := fun _ _ => ?_) | refine z_s (kk := fun _ _ _ _ => ?_) | refine z_D (kk := ?_) | refine z_g (kk := ?_) | refine z_h (kk := ?_)))
            exact W.endl ⟨_, ⟨rfl, rfl⟩, (by repeat (first | exact trivial | refine And.intro rfl ?_))⟩
          | false =>
            have hs : hold l xs i (j + 1) = ((kid l i).getD j 0 == xs.getD i 0) := by simp only [hold, hh, Bool.false_or, hk_, hrx]; rw [Bool.beq_eq_decide_eq]
            rw [hs]
            (repeat (first | with_reducible refine W.seq ?_ | with_reducible refine Ops.nil ?_ | with_reducible refine W.region ?_ | refine z_p (kk := ?_) | refine z_a (kk := ?_) | refine z_y (kk := ?_) | refine z_n (kk := ?_) | refine z_u (kk := ?_) | with_reducible refine W.skip ?_ | with_reducible refine W.endb ?_ | with_reducible refine W.block ?_ | refine W.exit rfl ?_ | refine z_l (kk := ?_) | refine z_f (kk := ?_) | refine z_M (kk := ?_) | refine z_m (kk := ?_) | refine z_e (kk := ?_) | refine z_E (kk := ?_) | refine z_d (kk := ?_) | refine z_I (kk := fun _ => ?_) | refine z_J (kk := fun _ => ?_) | refine z_K (kk := fun _ => ?_) | refine z_L (kk := fun _ => ?_) | refine z_T (kk := ?_) | refine z_F (kk := ?_) | refine z_k (kk := fun _ _ _ _ _ => ?_) | refine z_w (kk := fun _ _ => ?_) | refine z_s (kk := fun _ _ _ _ => ?_) | refine z_D (kk := ?_) | refine z_g (kk := ?_) | refine z_h (kk := ?_)))
            exact W.endl ⟨_, ⟨rfl, rfl⟩, (by repeat (first | exact trivial | refine And.intro rfl ?_))⟩
        rintro ρ w10 ⟨rfl, rfl⟩
        (repeat (first | with_reducible refine W.seq ?_ | with_reducible refine Ops.nil ?_ | with_reducible refine W.region ?_ | refine z_p (kk := ?_) | refine z_a (kk := ?_) | refine z_y (kk := ?_) | refine z_n (kk := ?_) | refine z_u (kk := ?_) | with_reducible refine W.skip ?_ | with_reducible refine W.endb ?_ | with_reducible refine W.block ?_ | refine W.exit rfl ?_ | refine z_l (kk := ?_) | refine z_f (kk := ?_) | refine z_M (kk := ?_) | refine z_m (kk := ?_) | refine z_e (kk := ?_) | refine z_E (kk := ?_) | refine z_d (kk := ?_) | refine z_I (kk := fun _ => ?_) | refine z_J (kk := fun _ => ?_) | refine z_K (kk := fun _ => ?_) | refine z_L (kk := fun _ => ?_) | refine z_T (kk := ?_) | refine z_F (kk := ?_) | refine z_k (kk := fun _ _ _ _ _ => ?_) | refine z_w (kk := fun _ _ => ?_) | refine z_s (kk := fun _ _ _ _ => ?_) | refine z_D (kk := ?_) | refine z_g (kk := ?_) | refine z_h (kk := ?_)))
        cases hbi : cs.getD i false with
        | false =>
          (repeat (first | with_reducible refine W.seq ?_ | with_reducible refine Ops.nil ?_ | with_reducible refine W.region ?_ | refine z_p (kk := ?_) | refine z_a (kk := ?_) | refine z_y (kk := ?_) | refine z_n (kk := ?_) | refine z_u (kk := ?_) | with_reducible refine W.skip ?_ | with_reducible refine W.endb ?_ | with_reducible refine W.block ?_ | refine W.exit rfl ?_ | refine z_l (kk := ?_) | refine z_f (kk := ?_) | refine z_M (kk := ?_) | refine z_m (kk := ?_) | refine z_e (kk := ?_) | refine z_E (kk := ?_) | refine z_d (kk := ?_) | refine z_I (kk := fun _ => ?_) | refine z_J (kk := fun _ => ?_) | refine z_K (kk := fun _ => ?_) | refine z_L (kk := fun _ => ?_) | refine z_T (kk := ?_) | refine z_F (kk := ?_) | refine z_k (kk := fun _ _ _ _ _ => ?_) | refine z_w (kk := fun _ _ => ?_) | refine z_s (kk := fun _ _ _ _ => ?_) | refine z_D (kk := ?_) | refine z_g (kk := ?_) | refine z_h (kk := ?_)))
          refine Ops.wrOi (u := false) (enc := Value.bool) rfl rfl rfl rfl rfl rfl rfl rfl rfl rfl rfl rfl (by simp) rfl hB9 (by omega) (by omega) (fun wa _ hBa ka _ => ?_)
          obtain ⟨hs1, hs2⟩ := hst false (by rw [hbi]; rfl)
          (repeat (first | with_reducible refine W.seq ?_ | with_reducible refine Ops.nil ?_ | with_reducible refine W.region ?_ | refine z_p (kk := ?_) | refine z_a (kk := ?_) | refine z_y (kk := ?_) | refine z_n (kk := ?_) | refine z_u (kk := ?_) | with_reducible refine W.skip ?_ | with_reducible refine W.endb ?_ | with_reducible refine W.block ?_ | refine W.exit rfl ?_ | refine z_l (kk := ?_) | refine z_f (kk := ?_) | refine z_M (kk := ?_) | refine z_m (kk := ?_) | refine z_e (kk := ?_) | refine z_E (kk := ?_) | refine z_d (kk := ?_) | refine z_I (kk := fun _ => ?_) | refine z_J (kk := fun _ => ?_) | refine z_K (kk := fun _ => ?_) | refine z_L (kk := fun _ => ?_) | refine z_T (kk := ?_) | refine z_F (kk := ?_) | refine z_k (kk := fun _ _ _ _ _ => ?_) | refine z_w (kk := fun _ _ => ?_) | refine z_s (kk := fun _ _ _ _ => ?_) | refine z_D (kk := ?_) | refine z_g (kk := ?_) | refine z_h (kk := ?_)))
          exact W.endl ⟨_, _, ⟨⟨j + 1, _, rfl, by omega, rfl, hBa, hs1, hs2⟩, by omega⟩, (by repeat (first | exact trivial | refine And.intro rfl ?_))⟩
        | true =>
          cases hei : evB dep i with
          | false =>
            have hevi2 : es.getD i false = false := by rw [hevi, hei]
            (repeat (first | with_reducible refine W.seq ?_ | with_reducible refine Ops.nil ?_ | with_reducible refine W.region ?_ | refine z_p (kk := ?_) | refine z_a (kk := ?_) | refine z_y (kk := ?_) | refine z_n (kk := ?_) | refine z_u (kk := ?_) | with_reducible refine W.skip ?_ | with_reducible refine W.endb ?_ | with_reducible refine W.block ?_ | refine W.exit rfl ?_ | refine z_l (kk := ?_) | refine z_f (kk := ?_) | refine z_M (kk := ?_) | refine z_m (kk := ?_) | refine z_e (kk := ?_) | refine z_E (kk := ?_) | refine z_d (kk := ?_) | refine z_I (kk := fun _ => ?_) | refine z_J (kk := fun _ => ?_) | refine z_K (kk := fun _ => ?_) | refine z_L (kk := fun _ => ?_) | refine z_T (kk := ?_) | refine z_F (kk := ?_) | refine z_k (kk := fun _ _ _ _ _ => ?_) | refine z_w (kk := fun _ _ => ?_) | refine z_s (kk := fun _ _ _ _ => ?_) | refine z_D (kk := ?_) | refine z_g (kk := ?_) | refine z_h (kk := ?_)))
            refine Ops.wrOi (u := true) (enc := Value.bool) rfl rfl rfl rfl rfl rfl rfl rfl rfl rfl rfl rfl (by simp) rfl hB9 (by omega) (by omega) (fun wa _ hBa ka _ => ?_)
            obtain ⟨hs1, hs2⟩ := hst true (by rw [hbi, hei]; rfl)
            (repeat (first | with_reducible refine W.seq ?_ | with_reducible refine Ops.nil ?_ | with_reducible refine W.region ?_ | refine z_p (kk := ?_) | refine z_a (kk := ?_) | refine z_y (kk := ?_) | refine z_n (kk := ?_) | refine z_u (kk := ?_) | with_reducible refine W.skip ?_ | with_reducible refine W.endb ?_ | with_reducible refine W.block ?_ | refine W.exit rfl ?_ | refine z_l (kk := ?_) | refine z_f (kk := ?_) | refine z_M (kk := ?_) | refine z_m (kk := ?_) | refine z_e (kk := ?_) | refine z_E (kk := ?_) | refine z_d (kk := ?_) | refine z_I (kk := fun _ => ?_) | refine z_J (kk := fun _ => ?_) | refine z_K (kk := fun _ => ?_) | refine z_L (kk := fun _ => ?_) | refine z_T (kk := ?_) | refine z_F (kk := ?_) | refine z_k (kk := fun _ _ _ _ _ => ?_) | refine z_w (kk := fun _ _ => ?_) | refine z_s (kk := fun _ _ _ _ => ?_) | refine z_D (kk := ?_) | refine z_g (kk := ?_) | refine z_h (kk := ?_)))
            exact W.endl ⟨_, _, ⟨⟨j + 1, _, rfl, by omega, rfl, hBa, hs1, hs2⟩, by omega⟩, (by repeat (first | exact trivial | refine And.intro rfl ?_))⟩
          | true =>
            have hevi2 : es.getD i false = true := by rw [hevi, hei]
            (repeat (first | with_reducible refine W.seq ?_ | with_reducible refine Ops.nil ?_ | with_reducible refine W.region ?_ | refine z_p (kk := ?_) | refine z_a (kk := ?_) | refine z_y (kk := ?_) | refine z_n (kk := ?_) | refine z_u (kk := ?_) | with_reducible refine W.skip ?_ | with_reducible refine W.endb ?_ | with_reducible refine W.block ?_ | refine W.exit rfl ?_ | refine z_l (kk := ?_) | refine z_f (kk := ?_) | refine z_M (kk := ?_) | refine z_m (kk := ?_) | refine z_e (kk := ?_) | refine z_E (kk := ?_) | refine z_d (kk := ?_) | refine z_I (kk := fun _ => ?_) | refine z_J (kk := fun _ => ?_) | refine z_K (kk := fun _ => ?_) | refine z_L (kk := fun _ => ?_) | refine z_T (kk := ?_) | refine z_F (kk := ?_) | refine z_k (kk := fun _ _ _ _ _ => ?_) | refine z_w (kk := fun _ _ => ?_) | refine z_s (kk := fun _ _ _ _ => ?_) | refine z_D (kk := ?_) | refine z_g (kk := ?_) | refine z_h (kk := ?_)))
            refine Ops.wrOi (u := ((kid l i).getD j 0 == xs.getD i 0)) (enc := Value.bool) rfl rfl rfl rfl rfl rfl rfl rfl rfl rfl rfl rfl (by simp) rfl hB9 (by omega) (by omega) (fun wa _ hBa ka _ => ?_)
            obtain ⟨hs1, hs2⟩ := hst ((kid l i).getD j 0 == xs.getD i 0) (by rw [hbi, hei, hrx]; simp [Bool.beq_eq_decide_eq])
            (repeat (first | with_reducible refine W.seq ?_ | with_reducible refine Ops.nil ?_ | with_reducible refine W.region ?_ | refine z_p (kk := ?_) | refine z_a (kk := ?_) | refine z_y (kk := ?_) | refine z_n (kk := ?_) | refine z_u (kk := ?_) | with_reducible refine W.skip ?_ | with_reducible refine W.endb ?_ | with_reducible refine W.block ?_ | refine W.exit rfl ?_ | refine z_l (kk := ?_) | refine z_f (kk := ?_) | refine z_M (kk := ?_) | refine z_m (kk := ?_) | refine z_e (kk := ?_) | refine z_E (kk := ?_) | refine z_d (kk := ?_) | refine z_I (kk := fun _ => ?_) | refine z_J (kk := fun _ => ?_) | refine z_K (kk := fun _ => ?_) | refine z_L (kk := fun _ => ?_) | refine z_T (kk := ?_) | refine z_F (kk := ?_) | refine z_k (kk := fun _ _ _ _ _ => ?_) | refine z_w (kk := fun _ _ => ?_) | refine z_s (kk := fun _ _ _ _ => ?_) | refine z_D (kk := ?_) | refine z_g (kk := ?_) | refine z_h (kk := ?_)))
            exact W.endl ⟨_, _, ⟨⟨j + 1, _, rfl, by omega, rfl, hBa, hs1, hs2⟩, by omega⟩, (by repeat (first | exact trivial | refine And.intro rfl ?_))⟩
      · have hjl : j = (kid l i).length := by omega
        subst hjl
        rw [hold_mem]
        have hrx : rd xs i = xs.getD i 0 := rfl
        have hcs : cs.getD i false = bsF.getD i false := by rw [hsm i (Nat.le_refl _), hsame]
        have hokN : okN l dep xs bsF i = if pl then decide (rd xs i ∈ kid l i) else decide (rd xs i = -1) := by unfold okN; rw [hpl, hsame]
        (repeat (first | with_reducible refine W.seq ?_ | with_reducible refine Ops.nil ?_ | with_reducible refine W.region ?_ | refine z_p (kk := ?_) | refine z_a (kk := ?_) | refine z_y (kk := ?_) | refine z_n (kk := ?_) | refine z_u (kk := ?_) | with_reducible refine W.skip ?_ | with_reducible refine W.endb ?_ | with_reducible refine W.block ?_ | refine W.exit rfl ?_ | refine z_l (kk := ?_) | refine z_f (kk := ?_) | refine z_M (kk := ?_) | refine z_m (kk := ?_) | refine z_e (kk := ?_) | refine z_E (kk := ?_) | refine z_d (kk := ?_) | refine z_I (kk := fun _ => ?_) | refine z_J (kk := fun _ => ?_) | refine z_K (kk := fun _ => ?_) | refine z_L (kk := fun _ => ?_) | refine z_T (kk := ?_) | refine z_F (kk := ?_) | refine z_k (kk := fun _ _ _ _ _ => ?_) | refine z_w (kk := fun _ _ => ?_) | refine z_s (kk := fun _ _ _ _ => ?_) | refine z_D (kk := ?_) | refine z_g (kk := ?_) | refine z_h (kk := ?_)))
        refine Ops.cut (fun ρ w' => ρ = [(0, .slice At l.length ct), (1, .slice Ax xs.length cx), (6, .slice Ae es.length ce), (7, .slice (some ⟨dr, 0, none⟩) l.length l.length), (8, .int .i64 (lst l (fun i => bsF.getD i false) 1000000 i)), (9, .int .i64 i), (114, .bool (!okN l dep xs bsF i))] ∧ w' = w9) ?_ ?_
        · rw [hokN]
          cases pl with
          | true =>
            by_cases hm : rd xs i ∈ kid l i
            · rw [decide_eq_true hm]
              (repeat (first | with_reducible refine W.seq ?_ | with_reducible refine Ops.nil ?_ | with_reducible refine W.region ?_ | refine z_p (kk := ?_) | refine z_a (kk := ?_) | refine z_y (kk := ?_) | refine z_n (kk := ?_) | refine z_u (kk := ?_) | with_reducible refine W.skip ?_ | with_reducible refine W.endb ?_ | with_reducible refine W.block ?_ | refine W.exit rfl ?_ | refine z_l (kk := ?_) | refine z_f (kk := ?_) | refine z_M (kk := ?_) | refine z_m (kk := ?_) | refine z_e (kk := ?_) | refine z_E (kk := ?_) | refine z_d (kk := ?_) | refine z_I (kk := fun _ => ?_) | refine z_J (kk := fun _ => ?_) | refine z_K (kk := fun _ => ?_) | refine z_L (kk := fun _ => ?_) | refine z_T (kk := ?_) | refine z_F (kk := ?_) | refine z_k (kk := fun _ _ _ _ _ => ?_) | refine z_w (kk := fun _ _ => ?_) | refine z_s (kk := fun _ _ _ _ => ?_) | refine z_D (kk := ?_) | refine z_g (kk := ?_) | refine z_h (kk := ?_)))
              exact W.endl ⟨_, ⟨rfl, rfl⟩, (by repeat (first | exact trivial | refine And.intro rfl ?_))⟩
            · rw [decide_eq_false hm]
              (repeat (first | with_reducible refine W.seq ?_ | with_reducible refine Ops.nil ?_ | with_reducible refine W.region ?_ | refine z_p (kk := ?_) | refine z_a (kk := ?_) | refine z_y (kk := ?_) | refine z_n (kk := ?_) | refine z_u (kk := ?_) | with_reducible refine W.skip ?_ | with_reducible refine W.endb ?_ | with_reducible refine W.block ?_ | refine W.exit rfl ?_ | refine z_l (kk := ?_) | refine z_f (kk := ?_) | refine z_M (kk := ?_) | refine z_m (kk := ?_) | refine z_e (kk := ?_) | refine z_E (kk := ?_) | refine z_d (kk := ?_) | refine z_I (kk := fun _ => ?_) | refine z_J (kk := fun _ => ?_) | refine z_K (kk := fun _ => ?_) | refine z_L (kk := fun _ => ?_) | refine z_T (kk := ?_) | refine z_F (kk := ?_) | refine z_k (kk := fun _ _ _ _ _ => ?_) | refine z_w (kk := fun _ _ => ?_) | refine z_s (kk := fun _ _ _ _ => ?_) | refine z_D (kk := ?_) | refine z_g (kk := ?_) | refine z_h (kk := ?_)))
              exact W.endl ⟨_, ⟨rfl, rfl⟩, (by repeat (first | exact trivial | refine And.intro rfl ?_))⟩
          | false =>
            rw [hrx, show (!if false = true then decide (xs.getD i 0 ∈ kid l i) else decide (xs.getD i 0 = -1)) = (xs.getD i 0 != -1) by simp [bne, Bool.beq_eq_decide_eq]]
            (repeat (first | with_reducible refine W.seq ?_ | with_reducible refine Ops.nil ?_ | with_reducible refine W.region ?_ | refine z_p (kk := ?_) | refine z_a (kk := ?_) | refine z_y (kk := ?_) | refine z_n (kk := ?_) | refine z_u (kk := ?_) | with_reducible refine W.skip ?_ | with_reducible refine W.endb ?_ | with_reducible refine W.block ?_ | refine W.exit rfl ?_ | refine z_l (kk := ?_) | refine z_f (kk := ?_) | refine z_M (kk := ?_) | refine z_m (kk := ?_) | refine z_e (kk := ?_) | refine z_E (kk := ?_) | refine z_d (kk := ?_) | refine z_I (kk := fun _ => ?_) | refine z_J (kk := fun _ => ?_) | refine z_K (kk := fun _ => ?_) | refine z_L (kk := fun _ => ?_) | refine z_T (kk := ?_) | refine z_F (kk := ?_) | refine z_k (kk := fun _ _ _ _ _ => ?_) | refine z_w (kk := fun _ _ => ?_) | refine z_s (kk := fun _ _ _ _ => ?_) | refine z_D (kk := ?_) | refine z_g (kk := ?_) | refine z_h (kk := ?_)))
            exact W.endl ⟨_, ⟨rfl, rfl⟩, (by repeat (first | exact trivial | refine And.intro rfl ?_))⟩
        rintro ρ w10 ⟨rfl, rfl⟩
        cases hoi : okN l dep xs bsF i with
        | false =>
          refine W.condT rfl (by first | rfl | assumption | (simp only [bnf] <;> omega) | (simp only [*, bnf]; done) | fail) ?_
          (repeat (first | with_reducible refine W.seq ?_ | with_reducible refine Ops.nil ?_ | with_reducible refine W.region ?_ | refine z_p (kk := ?_) | refine z_a (kk := ?_) | refine z_y (kk := ?_) | refine z_n (kk := ?_) | refine z_u (kk := ?_) | with_reducible refine W.skip ?_ | with_reducible refine W.endb ?_ | with_reducible refine W.block ?_ | refine W.exit rfl ?_ | refine z_l (kk := ?_) | refine z_f (kk := ?_) | refine z_M (kk := ?_) | refine z_m (kk := ?_) | refine z_e (kk := ?_) | refine z_E (kk := ?_) | refine z_d (kk := ?_) | refine z_I (kk := fun _ => ?_) | refine z_J (kk := fun _ => ?_) | refine z_K (kk := fun _ => ?_) | refine z_L (kk := fun _ => ?_) | refine z_T (kk := ?_) | refine z_F (kk := ?_) | refine z_k (kk := fun _ _ _ _ _ => ?_) | refine z_w (kk := fun _ _ => ?_) | refine z_s (kk := fun _ _ _ _ => ?_) | refine z_D (kk := ?_) | refine z_g (kk := ?_) | refine z_h (kk := ?_)))
          exact W.fret rfl ⟨Below.via hb1 hb9, .inr ⟨fun h => (by have := h.2 i hil; rw [hoi] at this; cases this), rfl⟩⟩
        | true =>
          refine W.condF rfl (by first | rfl | assumption | (simp only [bnf] <;> omega) | (simp only [*, bnf]; done) | fail) ?_
          (repeat (first | with_reducible refine W.seq ?_ | with_reducible refine Ops.nil ?_ | with_reducible refine W.region ?_ | refine z_p (kk := ?_) | refine z_a (kk := ?_) | refine z_y (kk := ?_) | refine z_n (kk := ?_) | refine z_u (kk := ?_) | with_reducible refine W.skip ?_ | with_reducible refine W.endb ?_ | with_reducible refine W.block ?_ | refine W.exit rfl ?_ | refine z_l (kk := ?_) | refine z_f (kk := ?_) | refine z_M (kk := ?_) | refine z_m (kk := ?_) | refine z_e (kk := ?_) | refine z_E (kk := ?_) | refine z_d (kk := ?_) | refine z_I (kk := fun _ => ?_) | refine z_J (kk := fun _ => ?_) | refine z_K (kk := fun _ => ?_) | refine z_L (kk := fun _ => ?_) | refine z_T (kk := ?_) | refine z_F (kk := ?_) | refine z_k (kk := fun _ _ _ _ _ => ?_) | refine z_w (kk := fun _ _ => ?_) | refine z_s (kk := fun _ _ _ _ => ?_) | refine z_D (kk := ?_) | refine z_g (kk := ?_) | refine z_h (kk := ?_)))
          rw [hcs]
          refine Ops.cut (fun ρ w' => ρ = [(0, .slice At l.length ct), (1, .slice Ax xs.length cx), (6, .slice Ae es.length ce), (7, .slice (some ⟨dr, 0, none⟩) l.length l.length), (8, .int .i64 (lst l (fun i => bsF.getD i false) 1000000 i)), (9, .int .i64 i), (125, .bool (bsF.getD i false && leafB l i))] ∧ Below w10.heap.size w10 w') ?_ ?_
          · cases hbi : bsF.getD i false with
            | false =>
              (repeat (first | with_reducible refine W.seq ?_ | with_reducible refine Ops.nil ?_ | with_reducible refine W.region ?_ | refine z_p (kk := ?_) | refine z_a (kk := ?_) | refine z_y (kk := ?_) | refine z_n (kk := ?_) | refine z_u (kk := ?_) | with_reducible refine W.skip ?_ | with_reducible refine W.endb ?_ | with_reducible refine W.block ?_ | refine W.exit rfl ?_ | refine z_l (kk := ?_) | refine z_f (kk := ?_) | refine z_M (kk := ?_) | refine z_m (kk := ?_) | refine z_e (kk := ?_) | refine z_E (kk := ?_) | refine z_d (kk := ?_) | refine z_I (kk := fun _ => ?_) | refine z_J (kk := fun _ => ?_) | refine z_K (kk := fun _ => ?_) | refine z_L (kk := fun _ => ?_) | refine z_T (kk := ?_) | refine z_F (kk := ?_) | refine z_k (kk := fun _ _ _ _ _ => ?_) | refine z_w (kk := fun _ _ => ?_) | refine z_s (kk := fun _ _ _ _ => ?_) | refine z_D (kk := ?_) | refine z_g (kk := ?_) | refine z_h (kk := ?_)))
              exact W.endl ⟨_, ⟨rfl, Below.refl _ _⟩, (by repeat (first | exact trivial | refine And.intro rfl ?_))⟩
            | true =>
              (repeat (first | with_reducible refine W.seq ?_ | with_reducible refine Ops.nil ?_ | with_reducible refine W.region ?_ | refine z_p (kk := ?_) | refine z_a (kk := ?_) | refine z_y (kk := ?_) | refine z_n (kk := ?_) | refine z_u (kk := ?_) | with_reducible refine W.skip ?_ | with_reducible refine W.endb ?_ | with_reducible refine W.block ?_ | refine W.exit rfl ?_ | refine z_l (kk := ?_) | refine z_f (kk := ?_) | refine z_M (kk := ?_) | refine z_m (kk := ?_) | refine z_e (kk := ?_) | refine z_E (kk := ?_) | refine z_d (kk := ?_) | refine z_I (kk := fun _ => ?_) | refine z_J (kk := fun _ => ?_) | refine z_K (kk := fun _ => ?_) | refine z_L (kk := fun _ => ?_) | refine z_T (kk := ?_) | refine z_F (kk := ?_) | refine z_k (kk := fun _ _ _ _ _ => ?_) | refine z_w (kk := fun _ _ => ?_) | refine z_s (kk := fun _ _ _ _ => ?_) | refine z_D (kk := ?_) | refine z_g (kk := ?_) | refine z_h (kk := ?_)))
              refine Ops.call rfl rfl rfl rfl rfl (leaf_c (Sl.below (by assumption) hb9) rfl) (fun r w6 hR => ?_)
              obtain ⟨rfl, hb6⟩ := hR
              rw [show ((((kid l i).length : Nat) : Int) == 0) = leafB l i by rw [hlfk, Bool.beq_eq_decide_eq]; simp]
              (repeat (first | with_reducible refine W.seq ?_ | with_reducible refine Ops.nil ?_ | with_reducible refine W.region ?_ | refine z_p (kk := ?_) | refine z_a (kk := ?_) | refine z_y (kk := ?_) | refine z_n (kk := ?_) | refine z_u (kk := ?_) | with_reducible refine W.skip ?_ | with_reducible refine W.endb ?_ | with_reducible refine W.block ?_ | refine W.exit rfl ?_ | refine z_l (kk := ?_) | refine z_f (kk := ?_) | refine z_M (kk := ?_) | refine z_m (kk := ?_) | refine z_e (kk := ?_) | refine z_E (kk := ?_) | refine z_d (kk := ?_) | refine z_I (kk := fun _ => ?_) | refine z_J (kk := fun _ => ?_) | refine z_K (kk := fun _ => ?_) | refine z_L (kk := fun _ => ?_) | refine z_T (kk := ?_) | refine z_F (kk := ?_) | refine z_k (kk := fun _ _ _ _ _ => ?_) | refine z_w (kk := fun _ _ => ?_) | refine z_s (kk := fun _ _ _ _ => ?_) | refine z_D (kk := ?_) | refine z_g (kk := ?_) | refine z_h (kk := ?_)))
              exact W.endl ⟨_, ⟨rfl, hb6⟩, (by repeat (first | exact trivial | refine And.intro rfl ?_))⟩
          rintro ρ w11 ⟨rfl, hb11⟩
          have hB11 := hB9.below hb11
          have hok2 : ∀ j : Nat, j < i + 1 → okN l dep xs bsF j = true := fun j hj => by
            by_cases e : j = i
            · subst e; exact hoi
            · exact hok j (by omega)
          have hb12 := hB11.bel
          cases hgo : (bsF.getD i false && leafB l i) with
          | false =>
            have hls : lst l (fun i => bsF.getD i false) 1000000 (i + 1) = lst l (fun i => bsF.getD i false) 1000000 i := by simp only [lst, hgo]; rfl
            refine W.condF rfl (by first | rfl | assumption | (simp only [bnf] <;> omega) | (simp only [*, bnf]; done) | fail) ?_
            (repeat (first | with_reducible refine W.seq ?_ | with_reducible refine Ops.nil ?_ | with_reducible refine W.region ?_ | refine z_p (kk := ?_) | refine z_a (kk := ?_) | refine z_y (kk := ?_) | refine z_n (kk := ?_) | refine z_u (kk := ?_) | with_reducible refine W.skip ?_ | with_reducible refine W.endb ?_ | with_reducible refine W.block ?_ | refine W.exit rfl ?_ | refine z_l (kk := ?_) | refine z_f (kk := ?_) | refine z_M (kk := ?_) | refine z_m (kk := ?_) | refine z_e (kk := ?_) | refine z_E (kk := ?_) | refine z_d (kk := ?_) | refine z_I (kk := fun _ => ?_) | refine z_J (kk := fun _ => ?_) | refine z_K (kk := fun _ => ?_) | refine z_L (kk := fun _ => ?_) | refine z_T (kk := ?_) | refine z_F (kk := ?_) | refine z_k (kk := fun _ _ _ _ _ => ?_) | refine z_w (kk := fun _ _ => ?_) | refine z_s (kk := fun _ _ _ _ => ?_) | refine z_D (kk := ?_) | refine z_g (kk := ?_) | refine z_h (kk := ?_)))
            exact W.endl ⟨_, _, ⟨⟨i + 1, _, rfl, by omega, by rw [hls], hB11, hP9.row, hok2⟩, by omega⟩, (by repeat (first | exact trivial | refine And.intro rfl ?_))⟩
          | true =>
            have hls : lst l (fun i => bsF.getD i false) 1000000 (i + 1) = min (lst l (fun i => bsF.getD i false) 1000000 i) (wor l i) := by simp only [lst, hgo]; rfl
            refine W.condT rfl (by first | rfl | assumption | (simp only [bnf] <;> omega) | (simp only [*, bnf]; done) | fail) ?_
            (repeat (first | with_reducible refine W.seq ?_ | with_reducible refine Ops.nil ?_ | with_reducible refine W.region ?_ | refine z_p (kk := ?_) | refine z_a (kk := ?_) | refine z_y (kk := ?_) | refine z_n (kk := ?_) | refine z_u (kk := ?_) | with_reducible refine W.skip ?_ | with_reducible refine W.endb ?_ | with_reducible refine W.block ?_ | refine W.exit rfl ?_ | refine z_l (kk := ?_) | refine z_f (kk := ?_) | refine z_M (kk := ?_) | refine z_m (kk := ?_) | refine z_e (kk := ?_) | refine z_E (kk := ?_) | refine z_d (kk := ?_) | refine z_I (kk := fun _ => ?_) | refine z_J (kk := fun _ => ?_) | refine z_K (kk := fun _ => ?_) | refine z_L (kk := fun _ => ?_) | refine z_T (kk := ?_) | refine z_F (kk := ?_) | refine z_k (kk := fun _ _ _ _ _ => ?_) | refine z_w (kk := fun _ _ => ?_) | refine z_s (kk := fun _ _ _ _ => ?_) | refine z_D (kk := ?_) | refine z_g (kk := ?_) | refine z_h (kk := ?_)))
            exact W.endl ⟨_, _, ⟨⟨i + 1, _, rfl, by omega, by rw [hls], hB11, hP9.row, hok2⟩, by omega⟩, (by repeat (first | exact trivial | refine And.intro rfl ?_))⟩
    · have hil : i = l.length := by omega
      subst hil
      (repeat (first | with_reducible refine W.seq ?_ | with_reducible refine Ops.nil ?_ | with_reducible refine W.region ?_ | refine z_p (kk := ?_) | refine z_a (kk := ?_) | refine z_y (kk := ?_) | refine z_n (kk := ?_) | refine z_u (kk := ?_) | with_reducible refine W.skip ?_ | with_reducible refine W.endb ?_ | with_reducible refine W.block ?_ | refine W.exit rfl ?_ | refine z_l (kk := ?_) | refine z_f (kk := ?_) | refine z_M (kk := ?_) | refine z_m (kk := ?_) | refine z_e (kk := ?_) | refine z_E (kk := ?_) | refine z_d (kk := ?_) | refine z_I (kk := fun _ => ?_) | refine z_J (kk := fun _ => ?_) | refine z_K (kk := fun _ => ?_) | refine z_L (kk := fun _ => ?_) | refine z_T (kk := ?_) | refine z_F (kk := ?_) | refine z_k (kk := fun _ _ _ _ _ => ?_) | refine z_w (kk := fun _ _ => ?_) | refine z_s (kk := fun _ _ _ _ => ?_) | refine z_D (kk := ?_) | refine z_g (kk := ?_) | refine z_h (kk := ?_)))
      exact W.fret rfl ⟨Below.via hb1 hb5, .inl ⟨hxl, hok, rfl⟩⟩
  · refine W.condT rfl (by first | rfl | assumption | (simp only [bnf] <;> omega) | (simp only [*, bnf]; done) | fail) ?_
    (repeat (first | with_reducible refine W.seq ?_ | with_reducible refine Ops.nil ?_ | with_reducible refine W.region ?_ | refine z_p (kk := ?_) | refine z_a (kk := ?_) | refine z_y (kk := ?_) | refine z_n (kk := ?_) | refine z_u (kk := ?_) | with_reducible refine W.skip ?_ | with_reducible refine W.endb ?_ | with_reducible refine W.block ?_ | refine W.exit rfl ?_ | refine z_l (kk := ?_) | refine z_f (kk := ?_) | refine z_M (kk := ?_) | refine z_m (kk := ?_) | refine z_e (kk := ?_) | refine z_E (kk := ?_) | refine z_d (kk := ?_) | refine z_I (kk := fun _ => ?_) | refine z_J (kk := fun _ => ?_) | refine z_K (kk := fun _ => ?_) | refine z_L (kk := fun _ => ?_) | refine z_T (kk := ?_) | refine z_F (kk := ?_) | refine z_k (kk := fun _ _ _ _ _ => ?_) | refine z_w (kk := fun _ _ => ?_) | refine z_s (kk := fun _ _ _ _ => ?_) | refine z_D (kk := ?_) | refine z_g (kk := ?_) | refine z_h (kk := ?_)))
    exact W.fret rfl ⟨Below.refl _ _, .inr ⟨fun h => hxl h.1, rfl⟩⟩
end Go.Proofs.Ytdiljpnfochndaa
