/- A part of the walk: what this seat's statements share. -/
import Derived.Test.YtehjmakiljhjdaaZG4
import Derived.Test.YtehjmakiljhjdaaZG7
import Derived.Test.YtehjmakiljhjdaaZG6
import Derived.Test.YtehjmakiljhjdaaZG2
set_option linter.unusedVariables false
set_option linter.unusedSimpArgs false
set_option linter.unusedSectionVars false
namespace Go.Proofs.Ytehjmakiljhjdaa
open Go Go.RowKit Go.Proofs.Ytehjmakiljhjdaa.VW
open Go.Proofs.Ytehjmakiljhjdaa.HG (upd upd_eq upd_ne PI QI AU Scan Updd hasK cntB cntB_le cntB_upd muA)
attribute [local irreducible] W Ops OrdA VW.Ord OrdX
/-- The cost of button b and hole j, counted from 1 on. -/
def cst (c : List (List Int)) (b j : Nat) : Int := (c.getD (b - 1) []).getD (j - 1) 0
theorem cst_bd {c : List (List Int)} (hC : Cst c) (b j : Nat) (h1 : 1 ≤ b) (h2 : b ≤ c.length) (h3 : 1 ≤ j) (h4 : j ≤ c.length) : -1000 ≤ cst c b j ∧ cst c b j ≤ 1000 := hC.bd _ _ (by omega) (by omega)
theorem AI.of_zero {w : World} {b t : Nat} (h : w.heap[b]? = some (.cells #[.int .i64 0, .int .i64 0, .int .i64 0, .int .i64 0, .int .i64 0, .int .i64 0, .int .i64 0, .int .i64 0] t (0, 0))) : AI w b t (fun _ => 0) := h
theorem AN.of_zero {w : World} {b t : Nat} (h : w.heap[b]? = some (.cells #[.int .i64 0, .int .i64 0, .int .i64 0, .int .i64 0, .int .i64 0, .int .i64 0, .int .i64 0, .int .i64 0] t (0, 0))) : AN w b t (fun _ => 0) := h
theorem AB.of_zero {w : World} {b t : Nat} (h : w.heap[b]? = some (.cells #[.bool false, .bool false, .bool false, .bool false, .bool false, .bool false, .bool false, .bool false] t (0, 0))) : AB w b t (fun _ => false) := h
/-- The memory between two buttons. -/
structure S0 (w0 : World) (b2 b4 b5 b6 : Nat) (u v : Nat → Int) (o fr : Nat → Nat) (w : World) : Prop where
  bel : Below w0.heap.size w0 w
  P : PV w b4 u v
  O : AN w b5 84 o
  R : AN w b6 84 fr
  Z : Blk w b2 (rng 16 fun _ => .int .i64 0).toArray 86
theorem S0.kp {w0 : World} {b2 b4 b5 b6 : Nat} {u v : Nat → Int} {o fr : Nat → Nat} {w w' : World} {S : Nat → Prop} (h : S0 w0 b2 b4 b5 b6 u v o fr w) (k : Kp S w w') (hs : ∀ i, S i → w0.heap.size ≤ i ∧ i ≠ b2 ∧ i ≠ b4 ∧ i ≠ b5 ∧ i ≠ b6) : S0 w0 b2 b4 b5 b6 u v o fr w' :=
  ⟨Below.put h.bel k (fun i hi => (hs i hi).1), h.P.kp k (fun e => (hs _ e).2.2.1 rfl), h.O.kp k (fun e => (hs _ e).2.2.2.1 rfl), h.R.kp k (fun e => (hs _ e).2.2.2.2 rfl), h.Z.kp k (fun e => (hs _ e).2.1 rfl)⟩
set_option maxHeartbeats 8000000 in
theorem proof_c {w : World} {cv : Value} {c : List (List Int)} (hM : RowsM w cv c) (hC : Cst c) : Calls Try.prog 64 #[cv] w (Ret fun r w' => Below w.heap.size w w' ∧ ∃ u v o, PI (cst c) c.length c.length u v o ∧ r = .agg (rng 16 fun j => .int .i64 (if j < 8 then u j else v (j - 8))).toArray) := by
  have hn7 := hC.n7
  have hn1 := hC.n1
  have hcb := cst_bd hC
  obtain ⟨Ac, cc, rfl⟩ := hM.sl
  refine calls_W (vs := [_]) Try.func64 rfl (by kernel_rfl) rfl ?_
  (repeat (first | with_reducible refine W.seq ?_ | with_reducible refine W.region ?_))
  refine Ops.alloc rfl rfl rfl rfl (fun w1 b2 hb2 => ?_)
  (repeat (first | with_reducible refine W.seq ?_ | with_reducible refine Ops.nil ?_ | with_reducible refine W.region ?_ | refine z_p (kk := ?_) | refine z_l (kk := ?_)))
  refine Ops.alloc rfl rfl rfl rfl (fun w2 b4 hb4 => ?_)
  (repeat (first | with_reducible refine W.seq ?_ | with_reducible refine Ops.nil ?_ | with_reducible refine W.region ?_))
  refine Ops.alloc rfl rfl rfl rfl (fun w3 b5 hb5 => ?_)
  refine Ops.alloc rfl rfl rfl rfl (fun w4 b6 hb6 => ?_)
  have e2 := hb2.r_eq
  have e4 := hb4.r_eq
  have e5 := hb5.r_eq
  have e6 := hb6.r_eq
  have s2 := hb2.size
  have s4 := hb4.size
  have s5 := hb5.size
  have s6 := hb6.size
  have hS4 : S0 w b2 b4 b5 b6 (fun _ => 0) (fun _ => 0) (fun _ => 0) (fun _ => 0) w4 := by
    refine ⟨Below.put (Below.put (Below.put (Below.put (Below.refl _ _) hb2.kp (fun _ e => e.elim)) hb4.kp (fun _ e => e.elim)) hb5.kp (fun _ e => e.elim)) hb6.kp (fun _ e => e.elim), ?_, (AN.of_zero hb5.at_).kp hb6.kp (fun e => e), AN.of_zero hb6.at_, ?_⟩
    · have h1 : PV w2 b4 (fun _ => 0) (fun _ => 0) := hb4.at_
      exact (h1.kp hb5.kp (fun e => e)).kp hb6.kp (fun e => e)
    · have h1 : Blk w1 b2 (rng 16 fun _ => .int .i64 0).toArray 86 := hb2.at_
      exact ((h1.kp hb4.kp (fun e => e)).kp hb5.kp (fun e => e)).kp hb6.kp (fun e => e)
  have hlt6 : b6 < w4.heap.size := by omega
  clear hb2 hb4 hb5 hb6
  (repeat (first | with_reducible refine W.seq ?_ | with_reducible refine Ops.nil ?_ | with_reducible refine W.region ?_ | refine z_p (kk := ?_) | with_reducible refine W.block ?_))
  refine W.loop (fun mm ρ w5 => ∃ (m : Nat) (u v : Nat → Int) (o fr : Nat → Nat), mm = c.length - m ∧ ρ = [(0, .slice Ac c.length cc), (2, .pointer (some ⟨b2, 0, none⟩)), (3, .int .i64 c.length), (4, .pointer (some ⟨b4, 0, none⟩)), (5, .pointer (some ⟨b5, 0, none⟩)), (6, .pointer (some ⟨b6, 0, none⟩)), (7, .int .i64 ((m + 1 : Nat) : Int))] ∧ PI (cst c) c.length m u v o ∧ S0 w b2 b4 b5 b6 u v o fr w5)
    ⟨_, _, ⟨0, _, _, _, _, rfl, rfl, ?_, hS4⟩, (by repeat (first | exact trivial | refine And.intro rfl ?_))⟩ ?_
  · exact ⟨Nat.zero_le _, fun j _ _ => Nat.le_refl _, fun j k _ _ _ _ _ h => absurd rfl h, fun b h1 h2 => by omega, fun b j h1 h2 => by omega, fun j _ _ h => absurd rfl h, fun j _ _ => Int.le_refl _, fun j _ _ => by simp, fun j _ _ _ => rfl, fun b _ => rfl, by simp⟩
  rintro mm ρ w5 ⟨m, u, v, o, fr, rfl, rfl, hPI, hS5⟩
  have hm := hPI.hm
  (repeat (first | with_reducible refine W.seq ?_ | with_reducible refine Ops.nil ?_ | with_reducible refine W.region ?_ | refine z_p (kk := ?_)))
  (first | refine W.condD rfl (fun hc => ?_) (fun hc => ?_) | refine W.condE rfl (fun hc => ?_) (fun hc => ?_) | refine W.condN rfl (fun hc => ?_) (fun hc => ?_) | refine W.cond rfl (fun hc => ?_) (fun hc => ?_))
  · have hml : m < c.length := by omega
    (repeat (first | with_reducible refine W.seq ?_ | with_reducible refine W.region ?_ | refine z_p (kk := ?_) | with_reducible refine W.skip ?_ | with_reducible refine W.block ?_))
    refine w_AN (i := 0) hS5.O (fun w6 p hO6 hk6 hs6 => ?_)
    have hQ0 := hPI.start (fr := fr) hml
    have hS6 : S0 w b2 b4 b5 b6 u v (upd o 0 (m + 1)) fr w6 := ⟨Below.put hS5.bel hk6 (fun i e => by omega), hS5.P.kp hk6 (fun e => by omega), hO6, hS5.R.kp hk6 (fun e => by omega), hS5.Z.kp hk6 (fun e => by omega)⟩
    clear hO6 hk6
    (repeat (first | with_reducible refine W.seq ?_ | with_reducible refine Ops.nil ?_ | with_reducible refine W.region ?_ | refine z_p (kk := ?_)))
    refine Ops.evG rfl rfl rfl (EV.bld0 rfl rfl rfl rfl) ?_
    refine Ops.alloc rfl rfl rfl rfl (fun w7 b9 hb9 => ?_)
    refine Ops.stN (vs := rng 8 fun _ => .int .i64 0) (cs := rng 8 fun _ => .int .i64 0) rfl rfl rfl rfl rfl rfl (by intro v hv; obtain ⟨j, _, rfl⟩ := List.mem_map.1 hv; rfl) rfl hb9.at_ (fun w8 hu8 => ?_)
    have e9 := hb9.r_eq
    have s9 := hb9.size
    have s6' := hS6.bel.size
    have hlt65 : b6 < w6.heap.size := hS6.R.lt
    have hA8 : AI w8 b9 84 (fun _ => 0) := hu8.blk
    have hS8 : S0 w b2 b4 b5 b6 u v (upd o 0 (m + 1)) fr w8 := (hS6.kp hb9.kp (fun i e => e.elim)).kp hu8.kp (fun i e => by omega)
    have hlt9 : b9 < w8.heap.size := hA8.lt
    clear hu8
    (repeat (first | with_reducible refine W.seq ?_ | with_reducible refine Ops.nil ?_ | with_reducible refine W.region ?_ | refine z_p (kk := ?_) | with_reducible refine W.block ?_))
    refine W.loop (fun mm ρ wl => ∃ (j : Nat), mm = 8 - j ∧ j ≤ 8 ∧ ρ = [(0, .slice Ac c.length cc), (2, .pointer (some ⟨b2, 0, none⟩)), (3, .int .i64 c.length), (4, .pointer (some ⟨b4, 0, none⟩)), (5, .pointer (some ⟨b5, 0, none⟩)), (6, .pointer (some ⟨b6, 0, none⟩)), (7, .int .i64 ((m + 1 : Nat) : Int)), (8, .int .i64 ((0 : Nat) : Int)), (9, .pointer (some ⟨b9, 0, none⟩)), (28, .int .i64 j)] ∧ S0 w b2 b4 b5 b6 u v (upd o 0 (m + 1)) fr wl ∧ AI wl b9 84 (fun q => if q < j then 1099511627776 else 0))
      ⟨_, _, ⟨0, rfl, Nat.zero_le _, rfl, hS8, by simpa using hA8⟩, (by repeat (first | exact trivial | refine And.intro rfl ?_))⟩ ?_
    rintro mm ρ wl ⟨j, rfl, hj, rfl, hSl, hAl⟩
    (repeat (first | with_reducible refine W.seq ?_ | with_reducible refine Ops.nil ?_ | with_reducible refine W.region ?_ | refine z_p (kk := ?_)))
    (first | refine W.condD rfl (fun hc => ?_) (fun hc => ?_) | refine W.condE rfl (fun hc => ?_) (fun hc => ?_) | refine W.condN rfl (fun hc => ?_) (fun hc => ?_) | refine W.cond rfl (fun hc => ?_) (fun hc => ?_))
    · have hjl : j < 8 := by omega
      (repeat (first | with_reducible refine W.seq ?_ | with_reducible refine Ops.nil ?_ | with_reducible refine W.region ?_ | refine z_p (kk := ?_) | with_reducible refine W.skip ?_ | with_reducible refine W.block ?_))
      refine w_AI (i := j) hAl (fun wa p hAa hka hsa => ?_)
      (repeat (first | with_reducible refine Ops.nil ?_ | with_reducible refine W.region ?_ | refine z_p (kk := ?_) | refine z_a (kk := ?_) | with_reducible refine W.endb ?_))
      refine W.endl ⟨_, _, ⟨⟨j + 1, rfl, by omega, rfl, hSl.kp hka (fun i e => by have := hS6.bel.size; omega), hAa.congr (fun q hq => ?_)⟩, by omega⟩, (by repeat (first | exact trivial | refine And.intro rfl ?_))⟩
      unfold upd
      by_cases e : q = j
      · subst e; simp
      · have : (q < j + 1) = (q < j) := propext (by omega)
        simp only [e, if_false, this]
    · have hjl : j = 8 := by omega
      subst hjl
      have hAl' : AI wl b9 84 (fun _ => 1099511627776) := hAl.congr (fun q hq => if_pos hq)
      clear hAl hA8 hS8
      have hlt9l : b9 < wl.heap.size := hAl'.lt
      (repeat (first | with_reducible refine W.seq ?_ | with_reducible refine W.region ?_ | refine W.exit rfl ?_))
      refine Ops.alloc rfl rfl rfl rfl (fun wm b11 hb11 => ?_)
      have e11 := hb11.r_eq
      have s11 := hb11.size
      have hUm := AB.of_zero hb11.at_
      have hSm := hSl.kp hb11.kp (fun i e => e.elim)
      have hAm := hAl'.kp hb11.kp (fun e => e)
      clear hAl' hSl
      (repeat (first | with_reducible refine W.seq ?_ | with_reducible refine Ops.nil ?_ | with_reducible refine W.block ?_))
      refine W.loop (fun mm ρ wq => ∃ (hole : Nat) (u v far : Nat → Int) (fr : Nat → Nat) (us : Nat → Bool), mm = c.length + 1 - cntB us (c.length + 1) ∧ ρ = [(0, .slice Ac c.length cc), (2, .pointer (some ⟨b2, 0, none⟩)), (3, .int .i64 c.length), (4, .pointer (some ⟨b4, 0, none⟩)), (5, .pointer (some ⟨b5, 0, none⟩)), (6, .pointer (some ⟨b6, 0, none⟩)), (7, .int .i64 ((m + 1 : Nat) : Int)), (8, .int .i64 (hole : Int)), (9, .pointer (some ⟨b9, 0, none⟩)), (11, .pointer (some ⟨b11, 0, none⟩))] ∧ QI (cst c) c.length m u v far (upd o 0 (m + 1)) fr us hole ∧ S0 w b2 b4 b5 b6 u v (upd o 0 (m + 1)) fr wq ∧ AI wq b9 84 far ∧ AB wq b11 110 us)
        ⟨_, _, ⟨0, u, v, _, fr, _, rfl, rfl, hQ0, hSm, hAm, hUm⟩, (by repeat (first | exact trivial | refine And.intro rfl ?_))⟩ ?_
      clear hQ0 hSm hAm hUm
      rintro mm ρ wq ⟨hole, u, v, far, fr, us, rfl, rfl, hQ, hSq, hAq, hUq⟩
      generalize hoo : upd o 0 (m + 1) = oo at hQ hSq
      obtain ⟨bv, bu, bf⟩ := hQ.bounds hcb hn7
      have hhn := hQ.hn
      have hOq := hSq.O
      (repeat (first | with_reducible refine W.seq ?_ | with_reducible refine Ops.nil ?_ | with_reducible refine W.region ?_ | refine z_p (kk := ?_) | refine z_AI (kk := fun _ => ?_)))
      refine W.cond rfl (fun hc => ?_) (fun hc => ?_)
      · have hz : oo hole ≠ 0 := by simpa using hc
        have hob : 1 ≤ oo hole ∧ oo hole ≤ c.length := by
          have h0 := hQ.o0
          by_cases e : hole = 0
          · subst e; omega
          · have := hQ.im hole (by omega) hhn; omega
        have hrowl : (row c ((oo hole : Int) - 1)).length = c.length := hC.len ((oo hole : Int) - 1).toNat (by omega)
        have hraw : ∀ J : Nat, 1 ≤ J → (row c ((oo hole : Int) - 1)).getD ((J : Int) - 1).toNat 0 = cst c (oo hole) J := fun J hJ => by
          unfold cst row
          rw [show ((oo hole : Int) - 1).toNat = oo hole - 1 by omega, show ((J : Int) - 1).toNat = J - 1 by omega]
        have hcnt := cntB_upd hQ.hu (c.length + 1)
        rw [if_pos (by omega)] at hcnt
        have hcl := cntB_le (upd us hole true) (c.length + 1)
        have hUf : ∀ j, upd us hole true j = false → us j = false := fun j hj => by
          unfold upd at hj
          split at hj
          · cases hj
          · exact hj
        have h56 := hSq.bel.size
        (repeat (first | with_reducible refine W.seq ?_ | with_reducible refine W.region ?_ | refine z_p (kk := ?_) | with_reducible refine W.skip ?_ | with_reducible refine W.block ?_))
        refine w_AB (i := hole) hUq (fun wr p hUr hkr hsr => ?_)
        have hSr := hSq.kp hkr (fun i e => by omega)
        have hAr := hAq.kp hkr (fun e => by omega)
        clear hUq hSq hAq hkr hOq
        have hOr := hSr.O
        (repeat (first | with_reducible refine W.seq ?_ | with_reducible refine Ops.nil ?_ | with_reducible refine W.region ?_ | refine z_p (kk := ?_) | with_reducible refine W.block ?_ | refine z_AI (kk := fun _ => ?_)))
        refine W.loop (fun mm ρ ws => ∃ (J : Nat) (far' : Nat → Int) (fr' : Nat → Nat) (least : Int) (next : Nat), mm = c.length + 1 - J ∧ 1 ≤ J ∧ J ≤ c.length + 1 ∧ ρ = [(0, .slice Ac c.length cc), (2, .pointer (some ⟨b2, 0, none⟩)), (3, .int .i64 c.length), (4, .pointer (some ⟨b4, 0, none⟩)), (5, .pointer (some ⟨b5, 0, none⟩)), (6, .pointer (some ⟨b6, 0, none⟩)), (7, .int .i64 ((m + 1 : Nat) : Int)), (8, .int .i64 (hole : Int)), (9, .pointer (some ⟨b9, 0, none⟩)), (11, .pointer (some ⟨b11, 0, none⟩)), (12, .int .i64 (oo hole : Int)), (13, .int .i64 least), (14, .int .i64 (next : Int)), (15, .int .i64 (J : Int))] ∧ Scan c.length (upd us hole true) hole (fun j => cst c (oo hole) j - u (oo hole) - v j) far fr far' fr' least next J ∧ S0 w b2 b4 b5 b6 u v oo fr' ws ∧ AI ws b9 84 far' ∧ AB ws b11 110 (upd us hole true))
          ⟨_, _, ⟨1, far, fr, _, 0, rfl, Nat.le_refl _, by omega, rfl, Scan.start, hSr, hAr, hUr⟩, (by repeat (first | exact trivial | refine And.intro rfl ?_))⟩ ?_
        clear hSr hAr hUr hOr
        rintro mm ρ ws ⟨J, far', fr', least, next, rfl, hJ1, hJn, rfl, hSc, hSs, hAs, hUs⟩
        have hOs := hSs.O
        have hPs := hSs.P
        have hRs := hSs.R
        have hbs := hSs.bel
        have h56s := hbs.size
        (repeat (first | with_reducible refine W.seq ?_ | with_reducible refine Ops.nil ?_ | with_reducible refine W.region ?_ | refine z_p (kk := ?_)))
        (first | refine W.condD rfl (fun hc => ?_) (fun hc => ?_) | refine W.condE rfl (fun hc => ?_) (fun hc => ?_) | refine W.condN rfl (fun hc => ?_) (fun hc => ?_) | refine W.cond rfl (fun hc => ?_) (fun hc => ?_))
        · have hJl : J ≤ c.length := by omega
          cases hus : upd us hole true J with
          | true =>
            (repeat (first | with_reducible refine W.seq ?_ | with_reducible refine Ops.nil ?_ | with_reducible refine W.region ?_ | refine z_p (kk := ?_) | with_reducible refine W.skip ?_ | with_reducible refine W.block ?_ | refine z_AB (kk := fun _ => ?_)))
            refine W.condT rfl (by first | rfl | assumption | (simp only [bnf] <;> omega) | (simp only [*, bnf]; done) | fail) ?_
            (repeat (first | with_reducible refine Ops.nil ?_ | with_reducible refine W.region ?_ | refine z_p (kk := ?_) | refine z_a (kk := ?_) | refine W.exit rfl ?_))
            exact W.endl ⟨_, _, ⟨⟨J + 1, far', fr', least, next, rfl, by omega, by omega, rfl, hSc.skip hus, hSs, hAs, hUs⟩, by omega⟩, (by repeat (first | exact trivial | refine And.intro rfl ?_))⟩
          | false =>
            have hcij := hcb (oo hole) J hob.1 hob.2 hJ1 hJl
            rw [← hraw J hJ1] at hcij
            have hvJ := bv J hJl
            have huH := bu (oo hole) hob.1
            (repeat (first | with_reducible refine W.seq ?_ | with_reducible refine Ops.nil ?_ | with_reducible refine W.region ?_ | refine z_p (kk := ?_) | with_reducible refine W.skip ?_ | with_reducible refine W.block ?_ | refine z_AB (kk := fun _ => ?_)))
            refine W.condF rfl (by first | rfl | assumption | (simp only [bnf] <;> omega) | (simp only [*, bnf]; done) | fail) ?_
            (repeat (first | with_reducible refine W.seq ?_ | with_reducible refine W.skip ?_))
            refine W.ordA 99 [(0, 1), (1, 1), (2, 1), (3, 1), (4, 2), (5, 1), (6, 1), (7, 1), (8, 2), (9, 1), (10, 1), (11, 1), (12, 2), (13, 1), (14, 1), (15, 1), (16, 1), (17, 2), (18, 1), (19, 1)] rfl (by kernel_rfl) rfl (by kernel_rfl) (fun _ _ _ h => h) ?_
            (repeat (first | refine x_p (kk := ?_) | refine x_a (kk := ?_) | refine x_K (kk := fun _ => ?_) | refine x_r (kk := fun _ _ _ _ => ?_) | refine x_P (kk := ?_) | refine x_PU (kk := fun _ => ?_) | refine x_PW (kk := fun _ => ?_)))
            refine OrdA.nil (fun wt hbt => ?_)
            rw [hraw J hJ1]
            have kt : Kp (fun _ => False) ws wt := Kp.of_below hbt
            have hSt := hSs.kp kt (fun i e => e.elim)
            have hAt := hAs.kp kt (fun e => e)
            have hUt := hUs.kp kt (fun e => e)
            clear hSs hAs hUs hOs hPs hRs hbs
            have hRt := hSt.R
            have hOt := hSt.O
            have hPt := hSt.P
            have hZt := hSt.Z
            have hbt' := hSt.bel
            have h56t := hbt'.size
            by_cases hd : cst c (oo hole) J - u (oo hole) - v J < far' J
            · (repeat (first | with_reducible refine W.seq ?_ | with_reducible refine Ops.nil ?_ | with_reducible refine W.region ?_ | refine z_p (kk := ?_) | refine z_AI (kk := fun _ => ?_)))
              refine W.condT rfl (by first | rfl | assumption | (simp only [bnf] <;> omega) | (simp only [*, bnf]; done) | fail) ?_
              (repeat (first | with_reducible refine W.region ?_ | refine z_p (kk := ?_)))
              refine w_AI (i := J) hAt (fun wx p hAx hkx hsx => ?_)
              have hRx := hRt.kp hkx (fun e => by omega)
              skip
              refine w_AN (i := J) hRx (fun wy p hRy hky hsy => ?_)
              have hAy := hAx.kp hky (fun e => by omega)
              have hSy : S0 w b2 b4 b5 b6 u v oo (upd fr' J hole) wy := ⟨Below.put (Below.put hbt' hkx (fun i e => by omega)) hky (fun i e => by omega), (hPt.kp hkx (fun e => by omega)).kp hky (fun e => by omega), (hOt.kp hkx (fun e => by omega)).kp hky (fun e => by omega), hRy, (hZt.kp hkx (fun e => by omega)).kp hky (fun e => by omega)⟩
              have hUy := (hUt.kp hkx (fun e => by omega)).kp hky (fun e => by omega)
              clear hAt hAx hRx hRt
              have hgo := hSc.go hJ1 hus (far2 := upd far' J (cst c (oo hole) J - u (oo hole) - v J)) (fr2 := upd fr' J hole) (fun j hj => ⟨upd_ne hj, upd_ne hj⟩) ⟨by rw [upd_eq, if_pos hd], by rw [upd_eq, if_pos hd]⟩
              by_cases hl : upd far' J (cst c (oo hole) J - u (oo hole) - v J) J < least
              · rw [if_pos hl, if_pos hl] at hgo
                (repeat (first | with_reducible refine W.seq ?_ | with_reducible refine Ops.nil ?_ | with_reducible refine W.region ?_ | refine z_p (kk := ?_) | refine z_AI (kk := fun _ => ?_)))
                refine W.condT rfl (by first | rfl | assumption | (simp only [bnf] <;> omega) | (simp only [*, bnf]; done) | fail) ?_
                (repeat (first | with_reducible refine Ops.nil ?_ | with_reducible refine W.region ?_ | refine z_p (kk := ?_) | refine z_a (kk := ?_) | with_reducible refine W.endb ?_ | refine z_AI (kk := fun _ => ?_)))
                exact W.endl ⟨_, _, ⟨⟨J + 1, _, _, _, J, rfl, by omega, by omega, rfl, hgo, hSy, hAy, hUy⟩, by omega⟩, (by repeat (first | exact trivial | refine And.intro rfl ?_))⟩
              · rw [if_neg hl, if_neg hl] at hgo
                (repeat (first | with_reducible refine W.seq ?_ | with_reducible refine Ops.nil ?_ | with_reducible refine W.region ?_ | refine z_p (kk := ?_) | refine z_AI (kk := fun _ => ?_)))
                refine W.condF rfl (by first | rfl | assumption | (simp only [bnf] <;> omega) | (simp only [*, bnf]; done) | fail) ?_
                (repeat (first | with_reducible refine Ops.nil ?_ | with_reducible refine W.region ?_ | refine z_p (kk := ?_) | refine z_a (kk := ?_) | with_reducible refine W.skip ?_ | with_reducible refine W.endb ?_))
                exact W.endl ⟨_, _, ⟨⟨J + 1, _, _, _, next, rfl, by omega, by omega, rfl, hgo, hSy, hAy, hUy⟩, by omega⟩, (by repeat (first | exact trivial | refine And.intro rfl ?_))⟩
            · have hgo := hSc.go hJ1 hus (far2 := far') (fr2 := fr') (fun j hj => ⟨rfl, rfl⟩) ⟨by rw [if_neg hd], by rw [if_neg hd]⟩
              (repeat (first | with_reducible refine W.seq ?_ | with_reducible refine Ops.nil ?_ | with_reducible refine W.region ?_ | refine z_p (kk := ?_) | refine z_AI (kk := fun _ => ?_)))
              refine W.condF rfl (by first | rfl | assumption | (simp only [bnf] <;> omega) | (simp only [*, bnf]; done) | fail) ?_
              (repeat (first | with_reducible refine W.seq ?_ | with_reducible refine Ops.nil ?_ | with_reducible refine W.region ?_ | refine z_p (kk := ?_) | with_reducible refine W.skip ?_ | refine z_AI (kk := fun _ => ?_)))
              by_cases hl : far' J < least
              · rw [if_pos hl, if_pos hl] at hgo
                skip
                refine W.condT rfl (by first | rfl | assumption | (simp only [bnf] <;> omega) | (simp only [*, bnf]; done) | fail) ?_
                (repeat (first | with_reducible refine Ops.nil ?_ | with_reducible refine W.region ?_ | refine z_p (kk := ?_) | refine z_a (kk := ?_) | with_reducible refine W.endb ?_ | refine z_AI (kk := fun _ => ?_)))
                exact W.endl ⟨_, _, ⟨⟨J + 1, _, _, _, J, rfl, by omega, by omega, rfl, hgo, hSt, hAt, hUt⟩, by omega⟩, (by repeat (first | exact trivial | refine And.intro rfl ?_))⟩
              · rw [if_neg hl, if_neg hl] at hgo
                skip
                refine W.condF rfl (by first | rfl | assumption | (simp only [bnf] <;> omega) | (simp only [*, bnf]; done) | fail) ?_
                (repeat (first | with_reducible refine Ops.nil ?_ | with_reducible refine W.region ?_ | refine z_p (kk := ?_) | refine z_a (kk := ?_) | with_reducible refine W.skip ?_ | with_reducible refine W.endb ?_))
                exact W.endl ⟨_, _, ⟨⟨J + 1, _, _, _, next, rfl, by omega, by omega, rfl, hgo, hSt, hAt, hUt⟩, by omega⟩, (by repeat (first | exact trivial | refine And.intro rfl ?_))⟩
        · have hJl : J = c.length + 1 := by omega
          subst hJl
          clear hJ1 hJn
          have husn : ∀ k, upd us hole true k = true → k ≤ c.length ∧ oo k ≠ 0 := fun k hk => by
            unfold upd at hk
            split at hk
            · rename_i e; subst e; exact ⟨hhn, hz⟩
            · exact hQ.usn k hk
          have hus0 : upd us hole true 0 = true := by
            rcases hQ.st with ⟨e, _⟩ | hB
            · rw [e]; exact upd_eq
            · unfold upd; split; rfl; exact hB.us0
          have hfb : ∀ j, 1 ≤ j → j ≤ c.length → upd us hole true j = false → -100000 ≤ far' j ∧ far' j ≤ 1099511627776 := fun j h1 h2 h3 => by
            have g1 := (hSc.unu j h1 (by omega) h3).1
            have g2 := bf j h1 h2 (hUf j h3)
            have g3 := hcb (oo hole) j hob.1 hob.2 h1 h2
            have g4 := bv j h2
            have g5 := bu (oo hole) hob.1
            rw [g1]
            split <;> omega
          have hlb : -100000 ≤ least ∧ least ≤ 1099511627776 := by
            rcases hSc.lst with ⟨_, e, _⟩ | ⟨h1, h2, h3, h4, _⟩
            · omega
            · rw [h4]; exact hfb next h1 (by omega) h3
          have hdist : ∀ j k, j ≤ c.length → k ≤ c.length → upd us hole true j = true → upd us hole true k = true → k ≠ j → oo k ≠ oo j := fun j k hj hk h1 h2 hne e => by
            by_cases e0 : j = 0
            · subst e0
              exact hne (hQ.used_inj hj (by omega) hk e.symm (husn k h2).2).symm
            · exact hne (hQ.used_inj hk (by omega) hj e (husn j h1).2)
          (repeat (first | with_reducible refine W.seq ?_ | with_reducible refine Ops.nil ?_ | with_reducible refine W.region ?_ | refine z_p (kk := ?_) | refine z_a (kk := ?_) | with_reducible refine W.block ?_ | refine W.exit rfl ?_))
          refine W.loop (fun mm ρ wv => ∃ (J : Nat) (u' v' far2 : Nat → Int), mm = c.length + 1 - J ∧ J ≤ c.length + 1 ∧ ρ = [(0, .slice Ac c.length cc), (2, .pointer (some ⟨b2, 0, none⟩)), (3, .int .i64 c.length), (4, .pointer (some ⟨b4, 0, none⟩)), (5, .pointer (some ⟨b5, 0, none⟩)), (6, .pointer (some ⟨b6, 0, none⟩)), (7, .int .i64 ((m + 1 : Nat) : Int)), (9, .pointer (some ⟨b9, 0, none⟩)), (11, .pointer (some ⟨b11, 0, none⟩)), (13, .int .i64 least), (14, .int .i64 (next : Int)), (91, .int .i64 ((c.length : Int) + 1)), (92, .int .i64 (J : Int))] ∧ Updd (upd us hole true) oo least u v far' u' v' far2 J ∧ S0 w b2 b4 b5 b6 u' v' oo fr' wv ∧ AI wv b9 84 far2 ∧ AB wv b11 110 (upd us hole true))
            ⟨_, _, ⟨0, u, v, far', rfl, Nat.zero_le _, rfl, Updd.start, hSs, hAs, hUs⟩, (by repeat (first | exact trivial | refine And.intro rfl ?_))⟩ ?_
          clear hSs hAs hUs hOs hPs hRs hbs
          rintro mm ρ wv ⟨J, u', v', far2, rfl, hJn, rfl, hUp, hSv, hAv, hUv⟩
          have hOv := hSv.O
          have hPv := hSv.P
          have hRv := hSv.R
          have hZv := hSv.Z
          have hbv := hSv.bel
          have h56v := hbv.size
          (repeat (first | with_reducible refine W.seq ?_ | with_reducible refine Ops.nil ?_ | with_reducible refine W.region ?_ | refine z_p (kk := ?_)))
          (first | refine W.condD rfl (fun hc => ?_) (fun hc => ?_) | refine W.condE rfl (fun hc => ?_) (fun hc => ?_) | refine W.condN rfl (fun hc => ?_) (fun hc => ?_) | refine W.cond rfl (fun hc => ?_) (fun hc => ?_))
          · have hJl : J ≤ c.length := by omega
            obtain ⟨hcv, hcf⟩ := hUp.cur
            have hvJ := bv J hJl
            cases hus : upd us hole true J with
            | true =>
              have hinj : ∀ k, k < J → upd us hole true k = true → oo k ≠ oo J := fun k hk h2 => hdist J k hJl (by omega) hus h2 (by omega)
              have hcu := hUp.curU hinj
              have hoJ := (husn J hus).2
              have huJ := bu (oo J) (by omega)
              have hoJ7 : oo J ≤ 7 := by
                have h0 := hQ.o0
                have hlt := hQ.lt
                by_cases e : J = 0
                · subst e; omega
                · have := hQ.im J (by omega) hJl; omega
              rw [← hcu] at huJ
              rw [← hcv] at hvJ
              (repeat (first | with_reducible refine W.seq ?_ | with_reducible refine Ops.nil ?_ | with_reducible refine W.region ?_ | refine z_p (kk := ?_) | with_reducible refine W.skip ?_ | with_reducible refine W.block ?_ | refine z_AB (kk := fun _ => ?_)))
              refine W.condT rfl (by first | rfl | assumption | (simp only [bnf] <;> omega) | (simp only [*, bnf]; done) | fail) ?_
              (repeat (first | with_reducible refine W.seq ?_ | with_reducible refine W.region ?_ | refine z_p (kk := ?_) | refine z_a (kk := ?_) | refine z_f (kk := ?_) | refine z_AI (kk := fun _ => ?_) | refine z_PU (kk := fun _ => ?_)))
              refine w_PU (i := oo J) hPv (fun wx p hPx hkx hsx => ?_)
              have hOx := hOv.kp hkx (fun e => by omega)
              clear hPv
              (repeat (first | with_reducible refine Ops.nil ?_ | with_reducible refine W.region ?_ | refine z_p (kk := ?_) | refine z_a (kk := ?_) | refine z_f (kk := ?_) | refine z_PW (kk := fun _ => ?_)))
              refine w_PW (i := J) hPx (fun wy p hPy hky hsy => ?_)
              have hstep := hUp.used hus hinj
              rw [← hcu, ← hcv] at hstep
              have hSy : S0 w b2 b4 b5 b6 (upd u' (oo J) (u' (oo J) + least)) (upd v' J (v' J - least)) oo fr' wy := ⟨Below.put (Below.put hbv hkx (fun i e => by omega)) hky (fun i e => by omega), hPy, hOx.kp hky (fun e => by omega), (hRv.kp hkx (fun e => by omega)).kp hky (fun e => by omega), (hZv.kp hkx (fun e => by omega)).kp hky (fun e => by omega)⟩
              (repeat (first | with_reducible refine Ops.nil ?_ | with_reducible refine W.region ?_ | refine z_p (kk := ?_) | refine z_a (kk := ?_) | with_reducible refine W.endb ?_))
              exact W.endl ⟨_, _, ⟨⟨J + 1, _, _, far2, rfl, by omega, rfl, hstep, hSy, (hAv.kp hkx (fun e => by omega)).kp hky (fun e => by omega), (hUv.kp hkx (fun e => by omega)).kp hky (fun e => by omega)⟩, by omega⟩, (by repeat (first | exact trivial | refine And.intro rfl ?_))⟩
            | false =>
              have hJ1 : 1 ≤ J := by
                rcases Nat.eq_zero_or_pos J with e | e
                · subst e; rw [hus0] at hus; cases hus
                · exact e
              have hfJ := hfb J hJ1 hJl hus
              rw [← hcf] at hfJ
              (repeat (first | with_reducible refine W.seq ?_ | with_reducible refine Ops.nil ?_ | with_reducible refine W.region ?_ | refine z_p (kk := ?_) | with_reducible refine W.skip ?_ | with_reducible refine W.block ?_ | refine z_AB (kk := fun _ => ?_)))
              refine W.condF rfl (by first | rfl | assumption | (simp only [bnf] <;> omega) | (simp only [*, bnf]; done) | fail) ?_
              (repeat (first | with_reducible refine W.region ?_ | refine z_p (kk := ?_) | refine z_a (kk := ?_) | refine z_AI (kk := fun _ => ?_)))
              refine w_AI (i := J) hAv (fun wx p hAx hkx hsx => ?_)
              have hstep := hUp.free hus
              rw [← hcf] at hstep
              (repeat (first | with_reducible refine Ops.nil ?_ | with_reducible refine W.region ?_ | refine z_p (kk := ?_) | refine z_a (kk := ?_) | with_reducible refine W.endb ?_))
              exact W.endl ⟨_, _, ⟨⟨J + 1, u', v', _, rfl, by omega, rfl, hstep, hSv.kp hkx (fun i e => by omega), hAx, hUv.kp hkx (fun e => by omega)⟩, by omega⟩, (by repeat (first | exact trivial | refine And.intro rfl ?_))⟩
          · have hJl : J = c.length + 1 := by omega
            subst hJl
            obtain ⟨hQ', hn1'⟩ := hQ.step hcb hn7 hz hSc hUp
            (repeat (first | with_reducible refine Ops.nil ?_ | with_reducible refine W.region ?_ | refine z_p (kk := ?_) | with_reducible refine W.endb ?_ | refine W.exit rfl ?_))
            exact W.endl ⟨_, _, ⟨⟨next, u', v', far2, fr', upd us hole true, rfl, rfl, hQ', hSv, hAv, hUv⟩, by omega⟩, (by repeat (first | exact trivial | refine And.intro rfl ?_))⟩
      · have hz : oo hole = 0 := by simpa using hc
        obtain ⟨rk, hrk, hAU⟩ := hQ.back hz
        have husn := hQ.usn
        clear hOq
        (repeat (first | with_reducible refine W.block ?_ | refine W.exit rfl ?_))
        refine W.loop (fun mm ρ wb => ∃ (h : Nat) (oc : Nat → Nat), mm = muA us rk (cntB us (c.length + 1)) h ∧ ρ = [(0, .slice Ac c.length cc), (2, .pointer (some ⟨b2, 0, none⟩)), (3, .int .i64 c.length), (4, .pointer (some ⟨b4, 0, none⟩)), (5, .pointer (some ⟨b5, 0, none⟩)), (6, .pointer (some ⟨b6, 0, none⟩)), (7, .int .i64 ((m + 1 : Nat) : Int)), (8, .int .i64 (h : Int))] ∧ AU (cst c) c.length m u v oo fr us rk (cntB us (c.length + 1)) oc h ∧ S0 w b2 b4 b5 b6 u v oc fr wb)
          ⟨_, _, ⟨hole, oo, rfl, rfl, hAU, hSq⟩, (by repeat (first | exact trivial | refine And.intro rfl ?_))⟩ ?_
        clear hAU hSq hAq hUq
        rintro mm ρ wb ⟨h, oc, rfl, rfl, hAU, hSb⟩
        have hOb := hSb.O
        have hRb := hSb.R
        have hh := hAU.hn
        (repeat (first | with_reducible refine W.seq ?_ | with_reducible refine Ops.nil ?_ | with_reducible refine W.region ?_ | refine z_p (kk := ?_)))
        refine W.cond rfl (fun hc => ?_) (fun hc => ?_)
        · have hh1 : 1 ≤ h := by
            have : ¬ (h : Int) = 0 := by simpa using hc
            omega
          have hfl := (husn _ (hAU.chain hh1).1).1
          obtain ⟨hAU', hmu⟩ := hAU.step hrk husn hh1
          have h56b := hSb.bel.size
          (repeat (first | with_reducible refine W.seq ?_ | with_reducible refine W.region ?_ | refine z_p (kk := ?_) | with_reducible refine W.skip ?_ | with_reducible refine W.block ?_ | refine z_AI (kk := fun _ => ?_)))
          refine w_AN (i := h) hOb (fun wx p hOx hkx hsx => ?_)
          have hRx := hRb.kp hkx (fun e => by omega)
          have hSx : S0 w b2 b4 b5 b6 u v (upd oc h (oc (fr h))) fr wx := ⟨Below.put hSb.bel hkx (fun i e => by omega), hSb.P.kp hkx (fun e => by omega), hOx, hRx, hSb.Z.kp hkx (fun e => by omega)⟩
          clear hRb hOb
          (repeat (first | with_reducible refine Ops.nil ?_ | with_reducible refine W.region ?_ | refine z_p (kk := ?_) | with_reducible refine W.endb ?_ | refine z_AI (kk := fun _ => ?_)))
          exact W.endl ⟨_, _, ⟨⟨fr h, _, rfl, rfl, hAU', hSx⟩, hmu⟩, (by repeat (first | exact trivial | refine And.intro rfl ?_))⟩
        · have hh0 : h = 0 := by
            have : (h : Int) = 0 := by simpa using hc
            omega
          subst hh0
          have hPI' := AU.done hQ hcb hz hAU
          (repeat (first | with_reducible refine Ops.nil ?_ | with_reducible refine W.region ?_ | refine z_p (kk := ?_) | refine z_a (kk := ?_) | with_reducible refine W.endb ?_ | refine W.exit rfl ?_))
          exact W.endl ⟨_, _, ⟨⟨m + 1, u, v, oc, fr, rfl, rfl, hPI', hSb⟩, by omega⟩, (by repeat (first | exact trivial | refine And.intro rfl ?_))⟩
  · have hml : m = c.length := by omega
    subst hml
    have h56 := hS5.bel.size
    (repeat (first | with_reducible refine W.seq ?_ | with_reducible refine W.region ?_ | refine W.exit rfl ?_))
    refine Ops.evG rfl rfl rfl (EV.ldN (cs := rng 16 fun j => .int .i64 (if j < 8 then u j else v (j - 8))) rfl rfl rfl rfl hS5.P) ?_
    refine Ops.stN (vs := rng 16 fun j => .int .i64 (if j < 8 then u j else v (j - 8))) (cs := rng 16 fun _ => .int .i64 0) rfl rfl rfl rfl rfl rfl (by intro v hv; obtain ⟨j, _, rfl⟩ := List.mem_map.1 hv; rfl) rfl hS5.Z (fun w8 hu8 => ?_)
    (repeat (first | with_reducible refine Ops.nil ?_))
    refine W.fretCN rfl rfl rfl rfl hu8.blk ⟨Below.put hS5.bel hu8.kp (fun i e => by omega), u, v, o, hPI, rfl⟩
end Go.Proofs.Ytehjmakiljhjdaa
/- Plain: sums, and the prices that prove the first assignment. -/
namespace Go.Proofs.Ytehjmakiljhjdaa
open Go Go.RowKit Go.Proofs.Ytehjmakiljhjdaa.VW
open Go.Proofs.Ytehjmakiljhjdaa.HG (PI)
def sN (g : Nat → Int) : Nat → Int
  | 0 => 0
  | i + 1 => sN g i + g i
theorem sN_congr {g h : Nat → Int} : ∀ n, (∀ i, i < n → g i = h i) → sN g n = sN h n
  | 0, _ => rfl
  | n + 1, e => by simp only [sN]; rw [sN_congr n (fun i hi => e i (by omega)), e n (by omega)]
theorem sN_add {g h : Nat → Int} : ∀ n, sN (fun i => g i + h i) n = sN g n + sN h n
  | 0 => rfl
  | n + 1 => by simp only [sN]; rw [sN_add n]; omega
theorem sN_le {g h : Nat → Int} : ∀ n, (∀ i, i < n → g i ≤ h i) → sN g n ≤ sN h n
  | 0, _ => Int.le_refl _
  | n + 1, e => by simp only [sN]; have := sN_le n (fun i hi => e i (by omega)); have := e n (by omega); omega
def sL (g : Nat → Int) : List Nat → Int
  | [] => 0
  | x :: l => g x + sL g l
def sOut (g : Nat → Int) (l : List Nat) : Nat → Int := sN fun j => if j ∈ l then 0 else g j
theorem sOut_cons {g : Nat → Int} {l : List Nat} {x : Nat} (hx : ¬ x ∈ l) : ∀ n, sOut g (x :: l) n + (if x < n then g x else 0) = sOut g l n
  | 0 => by simp [sOut, sN]
  | n + 1 => by
    have ih := sOut_cons (g := g) hx n
    simp only [sOut, sN] at ih ⊢
    by_cases e : n = x
    · subst e
      rw [if_pos (show n ∈ n :: l by simp), if_neg hx, if_pos (Nat.lt_succ_self n)]
      rw [if_neg (Nat.lt_irrefl n)] at ih
      omega
    · have e1 : (n ∈ x :: l) = (n ∈ l) := by simp [e]
      have e2 : (x < n + 1) = (x < n) := by apply propext; omega
      simp only [e1, e2]
      omega
theorem sL_out {g : Nat → Int} {n : Nat} : ∀ l : List Nat, l.Nodup → (∀ x, x ∈ l → x < n) → sL g l + sOut g l n = sN g n
  | [], _, _ => by
    have : sOut g [] n = sN g n := sN_congr n (fun i _ => by simp)
    rw [this]; simp [sL]
  | x :: l, hn, hl => by
    have h1 := List.nodup_cons.1 hn
    have ih := sL_out (g := g) (n := n) l h1.2 (fun y hy => hl y (by simp [hy]))
    have := sOut_cons (g := g) h1.1 n
    rw [if_pos (hl x (by simp))] at this
    simp only [sL]
    omega
theorem cover {n : Nat} {l : List Nat} (hn : l.Nodup) (hl : ∀ x, x ∈ l → x < n) (hlen : l.length = n) {j : Nat} (hj : j < n) : j ∈ l := by
  apply Classical.byContradiction
  intro h
  have := nodup_sub (j :: l) (List.range n) (List.nodup_cons.2 ⟨h, hn⟩) (fun x hx => List.mem_range.2 (by
    rcases List.mem_cons.1 hx with e | e
    · omega
    · exact hl x e))
  simp at this
  omega
theorem sL_map {g : Nat → Int} {f : Nat → Nat} : ∀ n, sL g ((List.range n).map f) = sN (fun i => g (f i)) n := by
  have key : ∀ (l : List Nat) (y : Nat), sL g (l ++ [y]) = sL g l + g y := fun l y => by
    induction l with
    | nil => simp [sL]
    | cons x l ih => simp only [List.cons_append, sL, ih]; omega
  intro n
  induction n with
  | zero => rfl
  | succ n ih => rw [List.range_succ, List.map_append, List.map_singleton, key, ih]; rfl
theorem map_inj_nodup {f : Nat → Nat} {n : Nat} (hi : ∀ i k, i < n → k < n → f i = f k → i = k) : ((List.range n).map f).Nodup := by
  refine List.pairwise_map.2 (List.Pairwise.imp_of_mem (fun {a b} ha hb hne e => hne (hi a b (List.mem_range.1 ha) (List.mem_range.1 hb) e)) (List.nodup_range (n := n)))
theorem sN_perm {g : Nat → Int} {f : Nat → Nat} {n : Nat} (h1 : ∀ i, i < n → f i < n) (hi : ∀ i k, i < n → k < n → f i = f k → i = k) : sN (fun i => g (f i)) n = sN g n := by
  have hnd := map_inj_nodup hi
  have hl : ∀ x, x ∈ (List.range n).map f → x < n := fun x hx => by
    obtain ⟨i, hi, rfl⟩ := List.mem_map.1 hx
    exact h1 i (List.mem_range.1 hi)
  have h := sL_out (g := g) _ hnd hl
  have h0 : sOut g ((List.range n).map f) n = sN (fun _ => 0) n := sN_congr n (fun i hi => by rw [if_pos (cover hnd hl (by simp) hi)])
  have hz : ∀ m, sN (fun _ => 0) m = 0 := fun m => by
    induction m with
    | zero => rfl
    | succ m ih => simp [sN, ih]
  rw [h0, hz, sL_map] at h
  omega
theorem asg_inj {a : List Int} {n : Nat} (h : Asg a n) : ∀ i k, i < n → k < n → funA a i = funA a k → i = k := fun i k hi hk e => Classical.byContradiction fun hne => h.ne hi hk hne e
theorem sN_asg {g : Nat → Int} {a : List Int} {n : Nat} (h : Asg a n) : sN (fun i => g (funA a i)) n = sN g n := sN_perm (fun i hi => (h.funA hi).2) (asg_inj h)
theorem totP_sN {c : List (List Int)} {a : List Int} : ∀ n, totP c a n = sN (fun i => eC c i (funA a i)) n
  | 0 => rfl
  | n + 1 => by simp only [totP, sN]; rw [totP_sN n]; rfl
theorem sumP_sN {u v : List Int} : ∀ n, sumP u v n = sN (fun i => u.getD i 0) n + sN (fun i => v.getD i 0) n
  | 0 => rfl
  | n + 1 => by simp only [sumP, sN]; rw [sumP_sN n]; omega
/-- Prices that are allowed show a bound. -/
theorem weak {c : List (List Int)} {u v a : List Int} (hf : ∀ i, i < c.length → ∀ j, j < c.length → u.getD i 0 + v.getD j 0 ≤ ent c i j) (h : Asg a c.length) : sumP u v c.length ≤ totP c a c.length := by
  rw [sumP_sN, totP_sN, ← sN_asg (g := fun i => v.getD i 0) h, ← sN_add]
  exact sN_le _ (fun i hi => hf i hi _ (h.funA hi).2)
def pl (n : Nat) (f : Nat → Int) : List Int := (List.range n).map fun i => f (i + 1)
theorem pl_len (n : Nat) (f : Nat → Int) : (pl n f).length = n := by simp [pl]
theorem pl_get {n : Nat} {f : Nat → Int} {i : Nat} (h : i < n) : (pl n f).getD i 0 = f (i + 1) := by simp [pl, List.getD_eq_getElem?_getD, h]
theorem prov_PI {c : List (List Int)} {u v : Nat → Int} {o : Nat → Nat} (hC : Cst c) (h : PI (cst c) c.length c.length u v o) : Prov c (firstS c c.length 0) (pl c.length u) (pl c.length v) := by
  have hn7 := hC.n7
  have hcb := cst_bd hC
  have hf : ∀ i, i < c.length → ∀ j, j < c.length → (pl c.length u).getD i 0 + (pl c.length v).getD j 0 ≤ ent c i j := fun i hi j hj => by
    rw [pl_get hi, pl_get hj]
    exact h.feas (i + 1) (j + 1) (by omega) (by omega) (by omega) (by omega)
  refine ⟨firstS_Asg, pl_len _ _, pl_len _ _, fun i hi => ?_, hf, ?_⟩
  · unfold Bd
    rw [pl_get hi, pl_get hi]
    obtain ⟨j, j1, j2, j3⟩ := h.sur (i + 1) (by omega) (by omega)
    have ht := h.tight j j1 j2 (by omega)
    rw [j3] at ht
    have a1 := h.vneg j j1 j2
    have a2 := h.vlo j j1 j2
    have b1 := h.vneg (i + 1) (by omega) (by omega)
    have b2 := h.vlo (i + 1) (by omega) (by omega)
    have := hcb (i + 1) j (by omega) (by omega) j1 j2
    omega
  · refine Int.le_antisymm ?_ ?_
    · exact weak hf firstS_Asg
    · have hx : ∀ i : Nat, ∃ j : Nat, i < c.length → j < c.length ∧ o (j + 1) = i + 1 := fun i => by
        by_cases hi : i < c.length
        · obtain ⟨j, j1, j2, j3⟩ := h.sur (i + 1) (by omega) (by omega)
          exact ⟨j - 1, fun _ => ⟨by omega, by rw [show j - 1 + 1 = j from by omega]; exact j3⟩⟩
        · exact ⟨0, fun e => absurd e hi⟩
      obtain ⟨f, hfx⟩ := Classical.axiomOfChoice hx
      have hok : OkF c g0 0 c.length f := fun i _ hi _ => ⟨(hfx i hi).1, Nat.zero_testBit _, fun q hq hq2 _ e => by
        have h1 := (hfx i hi).2
        have h2 := (hfx q hq2).2
        rw [e, h1] at h2
        omega⟩
      have hA := asg_of hok
      have hfa : ∀ i, i < c.length → funA (lstF c.length f) i = f i := fun i hi => by unfold funA; rw [lstF_get hi]; rfl
      have htot : totP c (lstF c.length f) c.length = sumP (pl c.length u) (pl c.length v) c.length := by
        rw [sumP_sN, totP_sN, ← sN_asg (g := fun i => (pl c.length v).getD i 0) hA, ← sN_add]
        refine sN_congr _ (fun i hi => ?_)
        rw [hfa i hi, pl_get hi, pl_get (hfx i hi).1]
        have ht := h.tight (f i + 1) (by omega) (by have := (hfx i hi).1; omega) (by rw [(hfx i hi).2]; omega)
        rw [(hfx i hi).2] at ht
        exact ht.symm
      rw [first_tot, ← htot]
      exact min_le hA
/-- What proves an assignment makes it cheapest. -/
theorem Prov.min {c : List (List Int)} {a u v : List Int} (h : Prov c a u v) {b : List Int} (hb : Asg b c.length) : totP c a c.length ≤ totP c b c.length := by
  obtain ⟨h1, h2, h3, h4, h5, h6⟩ := h
  rw [← h6]
  exact weak h5 hb
/-- No room at the pairs of a cheapest assignment. -/
theorem Prov.tight {c : List (List Int)} {a u v b : List Int} (h : Prov c a u v) (hb : Asg b c.length) (ht : totP c b c.length = totP c a c.length) {i : Nat} (hi : i < c.length) : u.getD i 0 + v.getD (funA b i) 0 = ent c i (funA b i) := by
  obtain ⟨h1, h2, h3, h4, h5, h6⟩ := h
  rw [← ht, sumP_sN, totP_sN, ← sN_asg (g := fun i => v.getD i 0) hb, ← sN_add] at h6
  have key : ∀ (g k : Nat → Int) (n : Nat), (∀ i, i < n → g i ≤ k i) → sN g n = sN k n → ∀ i, i < n → g i = k i := fun g k n => by
    induction n with
    | zero => intro _ _ i hi; omega
    | succ n ih =>
      intro hle he i hi
      simp only [sN] at he
      have h1 := sN_le n (fun i hi => hle i (by omega))
      have h2 := hle n (by omega)
      by_cases e : i = n
      · subst e; omega
      · exact ih (fun i hi => hle i (by omega)) (by omega) i (by omega)
  exact key _ _ _ (fun i hi => h5 i hi _ (hb.funA hi).2) h6 i hi
end Go.Proofs.Ytehjmakiljhjdaa
namespace Go.Proofs.Ytehjmakiljhjdaa
open Go Go.RowKit Go.Proofs.Ytehjmakiljhjdaa.VW
attribute [local irreducible] W Ops OrdA VW.Ord OrdX
theorem clone_c {w : World} {v : Value} {xs : List Int} (h : SlI w v xs) (hl : xs.length ≤ 100000) : Calls Try.prog 65 #[v] w (Ret fun r w' => OI 3 (Value.int .i64) w w' r xs) := by
  obtain ⟨A, c, rfl⟩ := Sl.shape h
  refine calls_W (vs := [_]) Try.func65 rfl (by kernel_rfl) rfl ?_
  (repeat (first | with_reducible refine W.seq ?_ | with_reducible refine Ops.nil ?_ | with_reducible refine W.region ?_ | refine z_p (kk := ?_)))
  refine Ops.evG rfl rfl rfl (EV.nilE rfl rfl rfl rfl) ?_
  (repeat (first | with_reducible refine Ops.nil ?_))
  cases A with
  | none =>
    have hx : xs = [] := by
      obtain ⟨_, A, c', e, hc⟩ := h
      by_cases hp : 0 < xs.length
      · obtain ⟨a, ea, _⟩ := hc hp
        simp only [Value.slice.injEq] at e
        rw [ea] at e
        simp at e
      · exact List.eq_nil_of_length_eq_zero (by omega)
    subst hx
    refine W.condT rfl (by first | rfl | assumption | (simp only [bnf] <;> omega) | (simp only [*, bnf]; done) | fail) ?_
    (repeat (first | with_reducible refine W.seq ?_ | with_reducible refine Ops.nil ?_ | with_reducible refine W.region ?_ | refine z_p (kk := ?_)))
    exact W.fret rfl (OI.nil (Below.refl _ _))
  | some a =>
    refine W.condF rfl (by first | rfl | assumption | (simp only [bnf] <;> omega) | (simp only [*, bnf]; done) | fail) ?_
    (repeat (first | with_reducible refine W.seq ?_ | with_reducible refine W.region ?_ | with_reducible refine W.skip ?_))
    refine Ops.bs0 rfl rfl rfl rfl rfl (fun w1 r hM => ?_)
    have hO1 : OI 3 (Value.int .i64) w w1 (.slice (some ⟨r, 0, none⟩) 0 0) [] := ⟨Below.put (Below.refl _ _) hM.kp (fun _ e => e.elim), own_zero hM, fun k hk => by have := hM.r_eq; simp [Value.ownBlock] at hk; omega⟩
    (repeat (first | refine z_p (kk := ?_)))
    refine Ops.appO (enc := Value.int .i64) 0 rfl rfl rfl rfl rfl rfl rfl rfl rfl rfl hO1 h hO1.bel (fun _ => rfl) (by simp; omega) (fun v' w2 hO2 k2 hn2 => ?_)
    rw [List.nil_append] at hO2
    (repeat (first | with_reducible refine Ops.nil ?_ | refine z_p (kk := ?_)))
    exact W.fret rfl hO2
/-- A part of the prices, as a slice. -/
theorem part_sl {w : World} {b q n cap : Nat} {u v : Nat → Int} {f : Nat → Int} (h : PV w b u v) (hn : n ≤ 7) (hq : q = 0 ∨ q = 8) (hf : ∀ j, j < n → f (j + 1) = if q = 0 then u (j + 1) else v (j + 1)) : SlI w (.slice (some ((⟨b, q, none⟩ : Addr).add 1)) n cap) (pl n f) := by
  refine ⟨by rw [pl_len]; omega, _, cap, by rw [pl_len], fun _ => ⟨_, rfl, fun j hj => ?_⟩⟩
  rw [pl_len] at hj
  rw [add_lit, add_lit, pl_get hj, hf j hj]
  refine Blk.cell h ?_
  have := rng_get (m := 16) (f := fun j => .int .i64 (if j < 8 then u j else v (j - 8))) (i := q + 1 + j) (by omega)
  rw [this]
  rcases hq with rfl | rfl
  · rw [if_pos (show 0 + 1 + j < 8 by omega), if_pos rfl, show 0 + 1 + j = j + 1 from by omega]
  · rw [if_neg (show ¬ 8 + 1 + j < 8 by omega), if_neg (by omega), show 8 + 1 + j - 8 = j + 1 from by omega]
theorem Best_c {w : World} {cv : Value} {c : List (List Int)} (hM : RowsM w cv c) : Calls Try.prog 37 #[cv] w (Ret fun r w' => Below w.heap.size w w' ∧ (costsB c = false → r = .tuple #[.slice none 0 0, .slice none 0 0, .slice none 0 0, .int .i64 2]) ∧ (costsB c = true → ∃ av uv vv u v, r = .tuple #[av, uv, vv, .int .i64 0] ∧ OI 3 (Value.int .i64) w w' av (firstS c c.length 0) ∧ OI 3 (Value.int .i64) w w' uv u ∧ OI 3 (Value.int .i64) w w' vv v ∧ Prov c (firstS c c.length 0) u v)) := by
  obtain ⟨Ac, cc, rfl⟩ := hM.sl
  refine calls_W (vs := [_]) Try.func37 rfl (by kernel_rfl) rfl ?_
  (repeat (first | with_reducible refine W.seq ?_ | with_reducible refine Ops.nil ?_ | with_reducible refine W.region ?_ | refine z_p (kk := ?_)))
  refine Ops.call rfl rfl rfl rfl rfl (areCosts_c hM) (fun r w1 hR => ?_)
  obtain ⟨rfl, hb1⟩ := hR
  cases hc : costsB c with
  | false =>
    (repeat (first | with_reducible refine Ops.nil ?_ | refine z_p (kk := ?_)))
    refine W.condT rfl (by first | rfl | assumption | (simp only [bnf] <;> omega) | (simp only [*, bnf]; done) | fail) ?_
    (repeat (first | with_reducible refine W.seq ?_ | with_reducible refine Ops.nil ?_ | with_reducible refine W.region ?_ | refine z_p (kk := ?_)))
    exact W.fret rfl ⟨hb1, fun _ => rfl, fun h => (by cases h)⟩
  | true =>
    have hC := costs_iff.1 hc
    have hn7 := hC.n7
    have hn1 := hC.n1
    (repeat (first | with_reducible refine Ops.nil ?_ | refine z_p (kk := ?_)))
    refine W.condF rfl (by first | rfl | assumption | (simp only [bnf] <;> omega) | (simp only [*, bnf]; done) | fail) ?_
    (repeat (first | with_reducible refine W.seq ?_ | with_reducible refine W.region ?_ | refine z_p (kk := ?_) | with_reducible refine W.skip ?_))
    refine Ops.call rfl rfl rfl rfl rfl (proof_c (hM.below hb1) hC) (fun r w2 hR => ?_)
    obtain ⟨hb2, u, v, o, hPI, rfl⟩ := hR
    have hb02 := Below.via hb1 hb2
    skip
    refine Ops.alloc rfl rfl rfl rfl (fun w3 b hMk => ?_)
    have hb03 : Below w.heap.size w w3 := Below.put hb02 hMk.kp (fun _ e => e.elim)
    refine Ops.stN (vs := rng 16 fun j => .int .i64 (if j < 8 then u j else v (j - 8))) (cs := rng 16 fun _ => .int .i64 0) rfl rfl rfl rfl rfl rfl (by intro v hv; obtain ⟨j, _, rfl⟩ := List.mem_map.1 hv; rfl) rfl hMk.at_ (fun w4 hu4 => ?_)
    have hPV4 : PV w4 b u v := hu4.blk
    have hbw : w.heap.size ≤ b := by have := hMk.r_eq; have := hb02.size; omega
    have hb04 : Below w.heap.size w w4 := Below.put hb03 hu4.kp (fun i e => by omega)
    (repeat (first | with_reducible refine W.seq ?_ | with_reducible refine Ops.nil ?_ | with_reducible refine W.region ?_ | refine z_p (kk := ?_) | refine z_l (kk := ?_)))
    refine W.ord (hm := rfl) 9999 (fun _ => True) [(0, 1), (2, 1), (3, 1), (4, 1), (5, 1), (7, 1), (8, 1), (9, 1), (10, 1), (1, 0), (6, 0), (11, 0), (12, 1), (13, 1), (14, 1), (15, 1)] (by kernel_rfl) rfl (by kernel_rfl) (fun w5 k5 _ => ⟨trivial, ?_⟩)
    have hb45 : Below w4.heap.size w4 w5 := Kp.below k5 (Nat.le_refl _) (fun _ _ e => e)
    have hb05 := Below.via hb04 hb45
    have hPV5 : PV w5 b u v := hPV4.kp k5 (fun e => e)
    (repeat (first | refine y_p (kk := ?_) | refine y_a (kk := ?_) | refine y_P (kk := ?_)))
    refine VW.Ord.pure rfl rfl rfl rfl (fun _ _ _ h => h) (fun w => EV.slA (h := c.length + 1) rfl rfl rfl rfl rfl rfl (by omega) (by omega) (by omega)) ?_
    (repeat (first | refine y_p (kk := ?_) | refine y_a (kk := ?_) | refine y_P (kk := ?_)))
    refine VW.Ord.pure rfl rfl rfl rfl (fun _ _ _ h => h) (fun w => EV.slA (h := c.length + 1) rfl rfl rfl rfl rfl rfl (by omega) (by omega) (by omega)) ?_
    skip
    refine VW.Ord.effF rfl (Ops.call rfl rfl rfl rfl rfl (first_c (hM.below hb05) hC) (fun av w6 hA => Ops.nil (W.endl ⟨trivial, ?_⟩)))
    have hPV6 : PV w6 b u v := hPV5.kp (Kp.of_below (S := fun _ => False) hA.bel) (fun e => e)
    have hu6 : SlI w6 (.slice (some ((⟨b, 0 + 0, none⟩ : Addr).add 1)) (c.length + 1 - 1) 7) (pl c.length u) := part_sl (q := 0) (cap := 7) hPV6 hn7 (.inl rfl) (fun j _ => rfl)
    refine VW.Ord.effF rfl (Ops.call rfl rfl rfl rfl rfl (clone_c hu6 (by rw [pl_len]; omega)) (fun uv w7 hU => Ops.nil (W.endl ⟨trivial, ?_⟩)))
    have hPV7 : PV w7 b u v := hPV6.kp (Kp.of_below (S := fun _ => False) hU.bel) (fun e => e)
    have hv7 : SlI w7 (.slice (some ((⟨b, 0 + 8, none⟩ : Addr).add 1)) (c.length + 1 - 1) 7) (pl c.length v) := part_sl (q := 8) (cap := 7) hPV7 hn7 (.inr rfl) (fun j _ => rfl)
    refine VW.Ord.effF rfl (Ops.call rfl rfl rfl rfl rfl (clone_c hv7 (by rw [pl_len]; omega)) (fun vv w8 hV => Ops.nil (W.endl ⟨trivial, ?_⟩)))
    (repeat (first | refine y_p (kk := ?_)))
    refine VW.Ord.nil ?_
    have hb06 := Below.via hb05 hA.bel
    have hb07 := Below.via hb06 hU.bel
    have hb08 := Below.via hb07 hV.bel
    skip
    exact W.fret rfl ⟨hb08, fun h => (by cases h), fun _ => ⟨av, uv, vv, _, _, rfl, ((hA.up hb05).below hU.bel).below hV.bel, (hU.up hb06).below hV.bel, hV.up hb07, prov_PI hC hPI⟩⟩
end Go.Proofs.Ytehjmakiljhjdaa
namespace Go.Proofs.Ytehjmakiljhjdaa.VW
open Go Go.RowKit
theorem RW.nil {w0 w : World} {T : Nat → List Int} (h : Below w0.heap.size w0 w) : RW w0 w (.slice none 0 0) [] 0 T := ⟨OI.nil h, rfl, fun j hj => by omega, fun j hj => by omega⟩
theorem RW.push {w0 w1 w2 w' : World} {ov ov' cv : Value} {cvs : List Value} {n : Nat} {T : Nat → List Int} (h : RW w0 w1 ov cvs n T) (hR : OI 3 (Value.int .i64) w1 w2 cv (T n))
    (hO : OI 23 (fun v : Value => v) w0 w' ov' (cvs ++ [cv])) (k : Kp (fun i => ov.ownBlock = some i) w2 w') (hn : ∀ i, ov'.ownBlock = some i → ov.ownBlock = some i ∨ w2.heap.size ≤ i) : RW w0 w' ov' (cvs ++ [cv]) (n + 1) T := by
  have hl := h.len
  have h12 := hR.bel.size
  have g1 : ∀ j, j < n → (cvs ++ [cv]).getD j undef = cvs.getD j undef := fun j hj => appV_getD (by omega)
  have g2 : (cvs ++ [cv]).getD n undef = cv := appV_last hl.symm
  have hrow : ∀ j, j < n → ∀ b, (cvs.getD j undef).ownBlock = some b → b < w1.heap.size := fun j hj b e => ((h.rows j hj).own.lt b e).2
  have hov : ∀ b, ov.ownBlock = some b → b < w1.heap.size := fun b e => (h.o.own.lt b e).2
  have hcv : ∀ b, cv.ownBlock = some b → w1.heap.size ≤ b := fun b e => hR.ge b e
  have hcv2 : ∀ b, cv.ownBlock = some b → b < w2.heap.size := fun b e => (hR.own.lt b e).2
  refine ⟨hO, by simp [hl], fun j hj => ?_, fun j hj b e => ?_⟩
  · by_cases e : j = n
    · subst e
      rw [g2]
      exact (hR.up h.o.bel).kp k (fun i hi => ⟨h.o.ge i hi, fun e => by have := hov i hi; have := hcv i e; omega⟩)
    · rw [g1 j (by omega)]
      exact ((h.rows j (by omega)).below hR.bel).kp k (fun i hi => ⟨h.o.ge i hi, fun e2 => (h.apart j (by omega) i e2).1 hi⟩)
  · by_cases ej : j = n
    · subst ej
      rw [g2] at e
      refine ⟨fun e2 => ?_, fun q hq hne e2 => ?_⟩
      · rcases hn b e2 with e3 | e3
        · have := hov b e3; have := hcv b e; omega
        · have := hcv2 b e; omega
      · rw [g1 q (by omega)] at e2
        have := hrow q (by omega) b e2; have := hcv b e; omega
    · rw [g1 j (by omega)] at e
      have hb := hrow j (by omega) b e
      refine ⟨fun e2 => ?_, fun q hq hne e2 => ?_⟩
      · rcases hn b e2 with e3 | e3
        · exact (h.apart j (by omega) b e).1 e3
        · omega
      · by_cases eq : q = n
        · subst eq
          rw [g2] at e2
          have := hcv b e2; omega
        · rw [g1 q (by omega)] at e2
          exact (h.apart j (by omega) b e).2 q (by omega) hne e2
theorem RowsM.nil (w : World) : RowsM w (.slice none 0 0) [] := ⟨by simp, none, 0, [], rfl, fun h => by simp at h, fun j hj => by simp at hj⟩
end Go.Proofs.Ytehjmakiljhjdaa.VW
namespace Go.Proofs.Ytehjmakiljhjdaa
open Go Go.RowKit Go.Proofs.Ytehjmakiljhjdaa.VW
attribute [local irreducible] W Ops OrdA VW.Ord OrdX
theorem wrap_u (x : Int) : IntKind.u64.wrap x = x % 18446744073709551616 := by
  simp [IntKind.wrap, IntKind.bits, IntKind.signed]
theorem wrap_i {x : Int} (h0 : 0 ≤ x) (h1 : x < 9223372036854775808) : IntKind.i64.wrap x = x := by
  have : x % 18446744073709551616 = x := by omega
  simp [IntKind.wrap, IntKind.bits, IntKind.signed, this]
  omega
def modI (x n : Int) : Int := x % 18446744073709551616 % n
theorem modI_bd (x : Int) {n : Int} (h : 0 < n) : 0 ≤ modI x n ∧ modI x n < n := ⟨Int.emod_nonneg _ (by omega), Int.emod_lt_of_pos _ h⟩
theorem mod_c (x n : Int) (w : World) (h0 : 0 < n) (h1 : n < 9223372036854775808) : Calls Try.prog 26 #[.int .i64 x, .int .i64 n] w (Ret fun r w' => r = .int .i64 (modI x n) ∧ w' = w) := by
  refine calls_W (vs := [_, _]) Try.func26 rfl (by kernel_rfl) rfl ?_
  (repeat (first | with_reducible refine W.seq ?_ | with_reducible refine Ops.nil ?_ | with_reducible refine W.region ?_ | refine z_p (kk := ?_)))
  refine Ops.cv rfl rfl rfl rfl rfl rfl ?_
  (repeat (first | refine z_p (kk := ?_)))
  refine Ops.cv rfl rfl rfl rfl rfl rfl ?_
  have hn : IntKind.u64.wrap n = n := by rw [wrap_u]; omega
  refine Ops.remK rfl rfl rfl rfl rfl (by rw [hn]; omega) ?_
  refine Ops.cv rfl rfl rfl rfl rfl rfl ?_
  (repeat (first | with_reducible refine Ops.nil ?_ | refine z_p (kk := ?_)))
  refine W.fret rfl ⟨?_, rfl⟩
  have hb := modI_bd x h0
  show Value.int .i64 _ = _
  rw [hn, wrap_u, Int.tmod_eq_emod_of_nonneg (Int.emod_nonneg _ (by omega))]
  exact congrArg _ (wrap_i hb.1 (Int.lt_trans hb.2 h1))
def tmV (most x : Int) : Int := if x < -most ∨ x > most then modI x (2 * most + 1) - most else x
theorem tmV_bd {most : Int} (h : 0 ≤ most) (x : Int) : -most ≤ tmV most x ∧ tmV most x ≤ most := by
  unfold tmV
  split
  · have := modI_bd x (n := 2 * most + 1) (by omega); omega
  · omega
theorem tmV_zero {most : Int} (h : 0 ≤ most) : tmV most 0 = 0 := if_neg (by omega)
/-- A row of tame costs, the first j of them. -/
def tmR (l : List (List Int)) (n : Nat) (most : Int) (i j : Nat) : List Int := (List.range n).map fun q => if q < j then tmV most ((l.getD i []).getD q 0) else 0
theorem tmR_len (l : List (List Int)) (n : Nat) (most : Int) (i j : Nat) : (tmR l n most i j).length = n := by simp [tmR]
theorem tmR_set {l : List (List Int)} {n : Nat} {most : Int} {i j : Nat} (h : j < n) : (tmR l n most i j).set j (tmV most ((l.getD i []).getD j 0)) = tmR l n most i (j + 1) := by
  refine List.ext_getElem (by simp [tmR]) fun q h1 h2 => ?_
  simp only [tmR, List.getElem_set, List.getElem_map, List.getElem_range]
  by_cases e : j = q
  · subst e; simp
  · simp only [e, if_false]
    by_cases e2 : q < j
    · simp [e2, show q < j + 1 by omega]
    · simp [e2, show ¬ q < j + 1 by omega]
theorem tmR_zero {l : List (List Int)} {n : Nat} {most : Int} {i : Nat} : tmR l n most i 0 = List.replicate n 0 := by
  refine List.ext_getElem (by simp [tmR]) fun q h1 h2 => by simp [tmR]
theorem tmR_end {l : List (List Int)} {n : Nat} {most : Int} {i j : Nat} (hm : 0 ≤ most) (h : j < n → (l.getD i []).length ≤ j) : tmR l n most i j = tmR l n most i n := by
  refine List.ext_getElem (by simp [tmR]) fun q h1 h2 => ?_
  simp only [tmR_len] at h1
  simp only [tmR, List.getElem_map, List.getElem_range]
  rw [if_pos h1]
  by_cases e : q < j
  · rw [if_pos e]
  · rw [if_neg e, show (l.getD i []).getD q 0 = 0 from ?_, tmV_zero hm]
    rw [List.getD_eq_getElem?_getD, List.getElem?_eq_none (by have := h (by omega); omega)]; rfl
set_option maxHeartbeats 2000000 in
theorem tame_c {w : World} {lv : Value} {l : List (List Int)} (hM : RowsM w lv l) {n : Nat} (hn : n ≤ 7) {most : Int} (hm0 : 0 ≤ most) (hm1 : most ≤ 1000) :
    Calls Try.prog 27 #[lv, .int .i64 (n : Int), .int .i64 most] w (Ret fun r w' => ∃ cvs, RW w w' r cvs n (fun i => tmR l n most i n)) := by
  have hl := hM.1
  obtain ⟨Al, cl, rfl⟩ := hM.sl
  refine calls_W (vs := [_, _, _]) Try.func27 rfl (by kernel_rfl) rfl ?_
  (repeat (first | with_reducible refine W.seq ?_ | with_reducible refine Ops.nil ?_ | with_reducible refine W.region ?_ | refine z_p (kk := ?_) | with_reducible refine W.block ?_))
  refine W.loop (fun m ρ w3 => ∃ (i : Nat) (ov : Value) (cvs : List Value), m = n - i ∧ i ≤ n ∧ ρ = [(0, .slice Al l.length cl), (1, .int .i64 (n : Int)), (2, .int .i64 most), (7, ov), (8, .int .i64 i)] ∧ RW w w3 ov cvs i (fun i => tmR l n most i n))
    ⟨_, _, ⟨0, _, _, rfl, Nat.zero_le _, rfl, RW.nil (Below.refl _ _)⟩, (by repeat (first | exact trivial | refine And.intro rfl ?_))⟩ ?_
  rintro m ρ w3 ⟨i, ov, cvs, rfl, hi, rfl, hO⟩
  have hb3 := hO.o.bel
  (repeat (first | with_reducible refine W.seq ?_ | with_reducible refine Ops.nil ?_ | with_reducible refine W.region ?_ | refine z_p (kk := ?_)))
  (first | refine W.condD rfl (fun hc => ?_) (fun hc => ?_) | refine W.condE rfl (fun hc => ?_) (fun hc => ?_) | refine W.condN rfl (fun hc => ?_) (fun hc => ?_) | refine W.cond rfl (fun hc => ?_) (fun hc => ?_))
  · have hin : i < n := by omega
    (repeat (first | with_reducible refine W.seq ?_ | with_reducible refine W.region ?_ | refine z_p (kk := ?_) | with_reducible refine W.skip ?_ | with_reducible refine W.block ?_))
    refine Ops.mkO (Value.int .i64) 0 (w0 := w3) rfl rfl rfl rfl rfl rfl rfl rfl rfl (by omega) rfl (Below.refl _ _) (fun w4 r hL4 k4 hr4 => ?_)
    rw [← tmR_zero (l := l) (most := most) (i := i)] at hL4
    (repeat (first | with_reducible refine W.seq ?_ | with_reducible refine Ops.nil ?_ | with_reducible refine W.region ?_ | refine z_p (kk := ?_) | with_reducible refine W.block ?_))
    refine W.loop (fun m ρ w5 => ∃ (j : Nat), m = n - j ∧ j ≤ n ∧ ρ = [(0, .slice Al l.length cl), (1, .int .i64 (n : Int)), (2, .int .i64 most), (7, ov), (8, .int .i64 i), (9, .slice (some ⟨r, 0, none⟩) n n), (10, .int .i64 j)] ∧ OI 3 (Value.int .i64) w3 w5 (.slice (some ⟨r, 0, none⟩) n n) (tmR l n most i j))
      ⟨_, _, ⟨0, rfl, Nat.zero_le _, rfl, hL4⟩, (by repeat (first | exact trivial | refine And.intro rfl ?_))⟩ ?_
    rintro m ρ w5 ⟨j, rfl, hj, rfl, hL5⟩
    have hb5 : Below w.heap.size w w5 := Below.via hb3 hL5.bel
    by_cases hjn : j < n
    · by_cases hil : i < l.length
      · by_cases hjl : (j : Int) < (row l i).length
        · have hbv := tmV_bd hm0 ((row l i).getD j 0)
          (repeat (first | with_reducible refine W.seq ?_ | with_reducible refine Ops.nil ?_ | with_reducible refine W.region ?_ | refine z_p (kk := ?_) | refine z_y (kk := ?_) | refine z_l (kk := ?_) | refine z_r (kk := fun _ _ _ _ => ?_) | refine z_h (kk := ?_)))
          refine W.condT rfl (by first | rfl | assumption | (simp only [bnf] <;> omega) | (simp only [*, bnf]; done) | fail) ?_
          (repeat (first | with_reducible refine W.seq ?_ | with_reducible refine Ops.nil ?_ | with_reducible refine W.region ?_ | refine z_p (kk := ?_) | refine z_a (kk := ?_) | with_reducible refine W.skip ?_ | with_reducible refine W.block ?_ | refine z_I (kk := fun _ => ?_) | refine z_r (kk := fun _ _ _ _ => ?_)))
          have hset := tmR_set (l := l) (most := most) (i := i) hjn
          by_cases h1 : (row l i).getD j 0 < -most
          · have hbm := modI_bd ((row l i).getD j 0) (n := 2 * most + 1) (by omega)
            (repeat (first | with_reducible refine Ops.nil ?_ | refine z_p (kk := ?_) | refine z_n (kk := ?_) | refine z_g (kk := ?_)))
            refine W.condT rfl (by first | rfl | assumption | (simp only [bnf] <;> omega) | (simp only [*, bnf]; done) | fail) ?_
            (repeat (first | with_reducible refine W.region ?_ | refine z_p (kk := ?_) | refine z_a (kk := ?_)))
            refine Ops.callS rfl rfl rfl rfl rfl (mod_c _ _ _ (by omega) (by omega)) ?_
            (repeat (first | with_reducible refine Ops.nil ?_ | with_reducible refine W.region ?_ | refine z_p (kk := ?_) | refine z_a (kk := ?_)))
            refine Ops.wrO (enc := Value.int .i64) (u := tmV most ((row l i).getD j 0)) rfl rfl rfl rfl rfl rfl rfl rfl rfl rfl rfl (by rw [tmV, if_pos (.inl h1)]; rfl) (by simp) rfl hL5 (by rw [tmR_len]; omega) (fun w6 p hL6 k6 hs6 => ?_)
            rw [show row l i = l.getD i [] by simp [row]] at hL6
            rw [hset] at hL6
            (repeat (first | with_reducible refine Ops.nil ?_ | with_reducible refine W.region ?_ | refine z_p (kk := ?_) | refine z_a (kk := ?_) | with_reducible refine W.endb ?_))
            exact W.endl ⟨_, _, ⟨⟨j + 1, rfl, by omega, rfl, hL6⟩, by omega⟩, (by repeat (first | exact trivial | refine And.intro rfl ?_))⟩
          · by_cases h2 : (row l i).getD j 0 > most
            · have hbm := modI_bd ((row l i).getD j 0) (n := 2 * most + 1) (by omega)
              (repeat (first | with_reducible refine Ops.nil ?_ | refine z_p (kk := ?_) | refine z_y (kk := ?_) | refine z_h (kk := ?_)))
              refine W.condT rfl (by first | rfl | assumption | (simp only [bnf] <;> omega) | (simp only [*, bnf]; done) | fail) ?_
              (repeat (first | with_reducible refine W.region ?_ | refine z_p (kk := ?_) | refine z_a (kk := ?_)))
              refine Ops.callS rfl rfl rfl rfl rfl (mod_c _ _ _ (by omega) (by omega)) ?_
              (repeat (first | with_reducible refine Ops.nil ?_ | with_reducible refine W.region ?_ | refine z_p (kk := ?_) | refine z_a (kk := ?_)))
              refine Ops.wrO (enc := Value.int .i64) (u := tmV most ((row l i).getD j 0)) rfl rfl rfl rfl rfl rfl rfl rfl rfl rfl rfl (by rw [tmV, if_pos (.inr h2)]; rfl) (by simp) rfl hL5 (by rw [tmR_len]; omega) (fun w6 p hL6 k6 hs6 => ?_)
              rw [show row l i = l.getD i [] by simp [row]] at hL6
              rw [hset] at hL6
              (repeat (first | with_reducible refine Ops.nil ?_ | with_reducible refine W.region ?_ | refine z_p (kk := ?_) | refine z_a (kk := ?_) | with_reducible refine W.endb ?_))
              exact W.endl ⟨_, _, ⟨⟨j + 1, rfl, by omega, rfl, hL6⟩, by omega⟩, (by repeat (first | exact trivial | refine And.intro rfl ?_))⟩
            · (repeat (first | with_reducible refine Ops.nil ?_ | refine z_p (kk := ?_) | refine z_y (kk := ?_) | refine z_h (kk := ?_)))
              refine W.condF rfl (by first | rfl | assumption | (simp only [bnf] <;> omega) | (simp only [*, bnf]; done) | fail) ?_
              (repeat (first | with_reducible refine W.region ?_ | refine z_p (kk := ?_) | with_reducible refine W.skip ?_))
              refine Ops.wrO (enc := Value.int .i64) (u := tmV most ((row l i).getD j 0)) rfl rfl rfl rfl rfl rfl rfl rfl rfl rfl rfl (by rw [tmV, if_neg (by omega)]; rfl) (by simp) rfl hL5 (by rw [tmR_len]; omega) (fun w6 p hL6 k6 hs6 => ?_)
              rw [show row l i = l.getD i [] by simp [row]] at hL6
              rw [hset] at hL6
              (repeat (first | with_reducible refine Ops.nil ?_ | with_reducible refine W.region ?_ | refine z_p (kk := ?_) | refine z_a (kk := ?_) | with_reducible refine W.endb ?_))
              exact W.endl ⟨_, _, ⟨⟨j + 1, rfl, by omega, rfl, hL6⟩, by omega⟩, (by repeat (first | exact trivial | refine And.intro rfl ?_))⟩
        · have hrow : (l.getD i []).length ≤ j := by
            have : row l i = l.getD i [] := by simp [row]
            rw [this] at hjl
            omega
          (repeat (first | with_reducible refine W.seq ?_ | with_reducible refine Ops.nil ?_ | with_reducible refine W.region ?_ | refine z_p (kk := ?_) | refine z_y (kk := ?_) | refine z_l (kk := ?_) | refine z_r (kk := fun _ _ _ _ => ?_) | refine z_h (kk := ?_)))
          refine W.condF rfl (by first | rfl | assumption | (simp only [bnf] <;> omega) | (simp only [*, bnf]; done) | fail) ?_
          (repeat (first | with_reducible refine W.region ?_ | refine z_p (kk := ?_) | refine W.exit rfl ?_))
          rw [tmR_end hm0 (fun _ => hrow)] at hL5
          have hO5 := hO.below hL5.bel
          refine Ops.pushO (enc := fun v : Value => v) (u := .slice (some ⟨r, 0, none⟩) n n) rfl rfl rfl rfl rfl rfl rfl rfl rfl rfl rfl rfl (fun _ => rfl) rfl hO5.o (by rw [hO5.len]; omega) (fun lv' p w6 hO6 k6 hn6 => ?_)
          have hO7 := hO.push hL5 hO6 k6 hn6
          (repeat (first | with_reducible refine Ops.nil ?_ | with_reducible refine W.region ?_ | refine z_p (kk := ?_) | refine z_a (kk := ?_) | with_reducible refine W.endb ?_))
          exact W.endl ⟨_, _, ⟨⟨i + 1, _, _, rfl, by omega, rfl, hO7⟩, by omega⟩, (by repeat (first | exact trivial | refine And.intro rfl ?_))⟩
      · have hrow : (l.getD i []).length ≤ j := by
          rw [List.getD_eq_getElem?_getD, List.getElem?_eq_none (by omega)]; simp
        (repeat (first | with_reducible refine W.seq ?_ | with_reducible refine Ops.nil ?_ | with_reducible refine W.region ?_ | refine z_p (kk := ?_) | refine z_y (kk := ?_) | refine z_n (kk := ?_) | refine z_l (kk := ?_) | refine z_g (kk := ?_) | refine z_h (kk := ?_)))
        refine W.condF rfl (by first | rfl | assumption | (simp only [bnf] <;> omega) | (simp only [*, bnf]; done) | fail) ?_
        (repeat (first | with_reducible refine W.region ?_ | refine z_p (kk := ?_) | refine W.exit rfl ?_))
        rw [tmR_end hm0 (fun _ => hrow)] at hL5
        have hO5 := hO.below hL5.bel
        refine Ops.pushO (enc := fun v : Value => v) (u := .slice (some ⟨r, 0, none⟩) n n) rfl rfl rfl rfl rfl rfl rfl rfl rfl rfl rfl rfl (fun _ => rfl) rfl hO5.o (by rw [hO5.len]; omega) (fun lv' p w6 hO6 k6 hn6 => ?_)
        have hO7 := hO.push hL5 hO6 k6 hn6
        (repeat (first | with_reducible refine Ops.nil ?_ | with_reducible refine W.region ?_ | refine z_p (kk := ?_) | refine z_a (kk := ?_) | with_reducible refine W.endb ?_))
        exact W.endl ⟨_, _, ⟨⟨i + 1, _, _, rfl, by omega, rfl, hO7⟩, by omega⟩, (by repeat (first | exact trivial | refine And.intro rfl ?_))⟩
    · (repeat (first | with_reducible refine W.seq ?_ | with_reducible refine Ops.nil ?_ | with_reducible refine W.region ?_ | refine z_p (kk := ?_) | refine z_n (kk := ?_) | refine z_g (kk := ?_)))
      refine W.condF rfl (by first | rfl | assumption | (simp only [bnf] <;> omega) | (simp only [*, bnf]; done) | fail) ?_
      (repeat (first | with_reducible refine W.region ?_ | refine z_p (kk := ?_) | refine W.exit rfl ?_))
      rw [tmR_end hm0 (fun h => absurd h hjn)] at hL5
      have hO5 := hO.below hL5.bel
      refine Ops.pushO (enc := fun v : Value => v) (u := .slice (some ⟨r, 0, none⟩) n n) rfl rfl rfl rfl rfl rfl rfl rfl rfl rfl rfl rfl (fun _ => rfl) rfl hO5.o (by rw [hO5.len]; omega) (fun lv' p w6 hO6 k6 hn6 => ?_)
      have hO7 := hO.push hL5 hO6 k6 hn6
      (repeat (first | with_reducible refine Ops.nil ?_ | with_reducible refine W.region ?_ | refine z_p (kk := ?_) | refine z_a (kk := ?_) | with_reducible refine W.endb ?_))
      exact W.endl ⟨_, _, ⟨⟨i + 1, _, _, rfl, by omega, rfl, hO7⟩, by omega⟩, (by repeat (first | exact trivial | refine And.intro rfl ?_))⟩
  · have : i = n := by omega
    subst this
    (repeat (first | with_reducible refine W.seq ?_ | with_reducible refine Ops.nil ?_ | with_reducible refine W.region ?_ | refine z_p (kk := ?_) | refine W.exit rfl ?_))
    exact W.fret rfl ⟨cvs, hO⟩
end Go.Proofs.Ytehjmakiljhjdaa
/- Plain: all assignments in order. -/
namespace Go.Proofs.Ytehjmakiljhjdaa
open Go Go.RowKit Go.Proofs.Ytehjmakiljhjdaa.VW
/-- What comes out of a list by one more hole, of the first m. -/
def exR (a : List Int) : Nat → List (List Int)
  | 0 => []
  | m + 1 => exR a m ++ if (m : Int) ∈ a then [] else [a ++ [(m : Int)]]
/-- The first k of a list, all of them extended. -/
def exL (n : Nat) (l : List (List Int)) : Nat → List (List Int)
  | 0 => []
  | k + 1 => exL n l k ++ exR (l.getD k []) n
def levL (n : Nat) : Nat → List (List Int)
  | 0 => [[]]
  | i + 1 => exL n (levL n i) (levL n i).length
def allL (n : Nat) : List (List Int) := levL n n
theorem exR_len (a : List Int) : ∀ m, (exR a m).length ≤ m
  | 0 => Nat.le_refl _
  | m + 1 => by
    have := exR_len a m
    simp only [exR, List.length_append]
    split <;> simp <;> omega
theorem exL_len (n : Nat) (l : List (List Int)) : ∀ k, (exL n l k).length ≤ k * n
  | 0 => by simp [exL]
  | k + 1 => by
    have := exL_len n l k
    have := exR_len (l.getD k []) n
    simp only [exL, List.length_append, Nat.add_mul, Nat.one_mul]
    omega
theorem levL_len {n : Nat} (h : n ≤ 7) : ∀ i, (levL n i).length ≤ 7 ^ i
  | 0 => by simp [levL]
  | i + 1 => by
    have h1 := levL_len h i
    have h2 := exL_len n (levL n i) (levL n i).length
    have h3 : (levL n i).length * n ≤ 7 ^ i * 7 := Nat.mul_le_mul h1 h
    rw [Nat.pow_succ]
    exact Nat.le_trans h2 h3
theorem levL_lt {n i : Nat} (h : n ≤ 7) (hi : i ≤ 7) : (levL n i).length ≤ 823543 := Nat.le_trans (levL_len h i) (Nat.le_trans (Nat.pow_le_pow_right (by omega) hi) (by decide))
theorem mem_exR {a x : List Int} : ∀ m, x ∈ exR a m ↔ ∃ j, j < m ∧ ¬ (j : Int) ∈ a ∧ x = a ++ [(j : Int)]
  | 0 => by simp [exR]
  | m + 1 => by
    simp only [exR, List.mem_append, mem_exR m]
    constructor
    · rintro (⟨j, h1, h2, h3⟩ | h)
      · exact ⟨j, by omega, h2, h3⟩
      · split at h
        · simp at h
        · rename_i hm
          exact ⟨m, by omega, hm, by simpa using h⟩
    · rintro ⟨j, h1, h2, h3⟩
      by_cases e : j = m
      · subst e; right; rw [if_neg h2]; simp [h3]
      · exact .inl ⟨j, by omega, h2, h3⟩
theorem mem_exL {n : Nat} {l : List (List Int)} {x : List Int} : ∀ k, k ≤ l.length → (x ∈ exL n l k ↔ ∃ q, q < k ∧ x ∈ exR (l.getD q []) n)
  | 0, _ => by simp [exL]
  | k + 1, hk => by
    rw [exL, List.mem_append, mem_exL (n := n) (l := l) (x := x) k (by omega)]
    constructor
    · rintro (⟨q, h1, h2⟩ | h)
      · exact ⟨q, by omega, h2⟩
      · exact ⟨k, by omega, h⟩
    · rintro ⟨q, h1, h2⟩
      by_cases e : q = k
      · subst e; exact .inr h2
      · exact .inl ⟨q, by omega, h2⟩
theorem mem_exL' {n : Nat} {l : List (List Int)} {x : List Int} : x ∈ exL n l l.length ↔ ∃ a, a ∈ l ∧ x ∈ exR a n := by
  rw [mem_exL _ (Nat.le_refl _)]
  constructor
  · rintro ⟨q, h1, h2⟩; exact ⟨_, getD_memR h1, h2⟩
  · rintro ⟨a, h1, h2⟩
    obtain ⟨q, hq, rfl⟩ := mem_getDR h1
    exact ⟨q, hq, h2⟩
/-- A beginning of an assignment of n. -/
def Beg (a : List Int) (n i : Nat) : Prop := a.length = i ∧ (∀ x, x ∈ a → 0 ≤ x ∧ x < n) ∧ a.Nodup
theorem mem_levL {n : Nat} : ∀ i a, a ∈ levL n i ↔ Beg a n i
  | 0, a => by
    simp only [levL, List.mem_singleton, Beg]
    constructor
    · rintro rfl; simp
    · rintro ⟨h, _⟩; exact List.eq_nil_of_length_eq_zero h
  | i + 1, a => by
    simp only [levL, mem_exL']
    constructor
    · rintro ⟨b, h1, h2⟩
      obtain ⟨h3, h4, h5⟩ := (mem_levL i b).1 h1
      obtain ⟨j, j1, j2, rfl⟩ := (mem_exR n).1 h2
      refine ⟨by simp [h3], fun x hx => ?_, ?_⟩
      · rcases List.mem_append.1 hx with h | h
        · exact h4 x h
        · simp at h; omega
      · exact List.nodup_append.2 ⟨h5, by simp, fun x hx y hy e => by simp at hy; subst hy; subst e; exact j2 hx⟩
    · rintro ⟨h1, h2, h3⟩
      have hne : a ≠ [] := by intro e; subst e; simp at h1
      have hs := List.dropLast_concat_getLast hne
      have hl := h2 _ (List.getLast_mem hne)
      have hnd : (a.dropLast ++ [a.getLast hne]).Nodup := by rw [hs]; exact h3
      obtain ⟨n1, _, n3⟩ := List.nodup_append.1 hnd
      refine ⟨a.dropLast, (mem_levL i _).2 ⟨by simp [h1], fun x hx => h2 x (List.dropLast_subset a hx), n1⟩, (mem_exR n).2 ⟨(a.getLast hne).toNat, by omega, fun hm => ?_, ?_⟩⟩
      · rw [show ((a.getLast hne).toNat : Int) = a.getLast hne by omega] at hm
        exact n3 _ hm _ (by simp) rfl
      · rw [show ((a.getLast hne).toNat : Int) = a.getLast hne by omega, hs]
theorem asg_beg {a : List Int} {n : Nat} : Asg a n ↔ Beg a n n := by
  constructor
  · intro h
    refine ⟨h.1, fun x hx => ?_, ?_⟩
    · obtain ⟨i, hi, rfl⟩ := mem_getDI hx
      exact (h.2 i hi).1
    · rw [List.Nodup, List.pairwise_iff_getElem]
      intro i j hi hj hij
      have := (h.2 j hj).2 i hij
      simpa [List.getD_eq_getElem?_getD, hi, hj] using this
  · rintro ⟨h1, h2, h3⟩
    refine ⟨h1, fun i hi => ⟨h2 _ (getD_memI hi), fun k hk => ?_⟩⟩
    have := List.pairwise_iff_getElem.1 h3 k i (by omega) hi hk
    simpa [List.getD_eq_getElem?_getD, hi, show k < a.length by omega] using this
theorem mem_allL {n : Nat} {a : List Int} : a ∈ allL n ↔ Asg a n := by rw [asg_beg]; exact mem_levL n a
theorem lexB_app {a : List Int} {x y : Int} (h : x < y) : ∀ b c : List Int, lexB (a ++ x :: b) (a ++ y :: c) = true := fun b c => by
  induction a with
  | nil => simp [lexB, show x ≠ y by omega]; exact h
  | cons z a ih => simp only [List.cons_append, lexB, if_true]; exact ih
theorem lexB_ext {a b : List Int} (hl : a.length = b.length) (h : lexB a b = true) : ∀ x y : List Int, lexB (a ++ x) (b ++ y) = true := fun x y => by
  induction a generalizing b with
  | nil =>
    cases b with
    | nil => simp [lexB] at h
    | cons _ _ => simp at hl
  | cons u a ih =>
    cases b with
    | nil => simp at hl
    | cons v b =>
      simp only [List.cons_append, lexB] at h ⊢
      split
      · rename_i e; rw [if_pos e] at h; exact ih (by simpa using hl) h
      · rename_i e; rw [if_neg e] at h; exact h
theorem exR_sorted {a : List Int} : ∀ m, (exR a m).Pairwise fun x y => lexB x y = true
  | 0 => .nil
  | m + 1 => by
    simp only [exR]
    refine List.pairwise_append.2 ⟨exR_sorted m, by split <;> simp, fun x hx y hy => ?_⟩
    obtain ⟨j, h1, h2, rfl⟩ := (mem_exR m).1 hx
    split at hy
    · simp at hy
    · simp at hy; subst hy; exact lexB_app (by omega) _ _
theorem exL_sorted {n i : Nat} {l : List (List Int)} (hs : l.Pairwise fun x y => lexB x y = true) (hlen : ∀ a, a ∈ l → a.length = i) : ∀ k, k ≤ l.length → (exL n l k).Pairwise fun x y => lexB x y = true
  | 0, _ => .nil
  | k + 1, hk => by
    simp only [exL]
    refine List.pairwise_append.2 ⟨exL_sorted hs hlen k (by omega), exR_sorted _, fun x hx y hy => ?_⟩
    obtain ⟨q, hq, hx2⟩ := (mem_exL k (by omega)).1 hx
    obtain ⟨j, _, _, rfl⟩ := (mem_exR n).1 hx2
    obtain ⟨j2, _, _, rfl⟩ := (mem_exR n).1 hy
    refine lexB_ext (by rw [hlen _ (getD_memR (by omega)), hlen _ (getD_memR (by omega))]) ?_ _ _
    have := List.pairwise_iff_getElem.1 hs q k (by omega) (by omega) hq
    simpa [List.getD_eq_getElem?_getD, show q < l.length by omega, show k < l.length by omega] using this
theorem levL_sorted {n : Nat} : ∀ i, (levL n i).Pairwise fun x y => lexB x y = true
  | 0 => by simp [levL]
  | i + 1 => exL_sorted (levL_sorted i) (fun a ha => ((mem_levL i a).1 ha).1) _ (Nat.le_refl _)
theorem allL_sorted {n : Nat} : (allL n).Pairwise fun x y => lexB x y = true := levL_sorted n
theorem lexB_irr : ∀ a : List Int, lexB a a = false
  | [] => rfl
  | x :: a => by simp [lexB, lexB_irr a]
theorem lexB_trans : ∀ a b c : List Int, lexB a b = true → lexB b c = true → lexB a c = true
  | [], [], _, h, _ => by simp [lexB] at h
  | [], _ :: _, [], _, h => by simp [lexB] at h
  | [], _ :: _, _ :: _, _, _ => rfl
  | _ :: _, [], _, h, _ => by simp [lexB] at h
  | _ :: _, _ :: _, [], _, h => by simp [lexB] at h
  | x :: a, y :: b, z :: c, h1, h2 => by
    simp only [lexB] at h1 h2 ⊢
    by_cases e1 : x = y
    · subst e1
      rw [if_pos rfl] at h1
      by_cases e2 : x = z
      · rw [if_pos e2] at h2 ⊢; exact lexB_trans a b c h1 h2
      · rw [if_neg e2] at h2 ⊢; exact h2
    · rw [if_neg e1, decide_eq_true_eq] at h1
      by_cases e2 : y = z
      · subst e2; rw [if_neg e1]; simpa using h1
      · rw [if_neg e2, decide_eq_true_eq] at h2
        rw [if_neg (by omega), decide_eq_true_eq]; omega
theorem lexB_total : ∀ a b : List Int, a.length = b.length → a = b ∨ lexB a b = true ∨ lexB b a = true
  | [], [], _ => .inl rfl
  | [], _ :: _, h => by simp at h
  | _ :: _, [], h => by simp at h
  | x :: a, y :: b, h => by
    simp only [lexB]
    by_cases e : x = y
    · subst e
      rcases lexB_total a b (by simpa using h) with h | h | h
      · exact .inl (by rw [h])
      · exact .inr (.inl (by rw [if_pos rfl]; exact h))
      · exact .inr (.inr (by rw [if_pos rfl]; exact h))
    · right
      rw [if_neg e, if_neg (fun h => e h.symm), decide_eq_true_eq, decide_eq_true_eq]
      omega
theorem allL_nodup {n : Nat} : (allL n).Nodup := allL_sorted.imp fun {a b} h e => by subst e; rw [lexB_irr] at h; cases h
theorem allL_pos {n : Nat} : 0 < (allL n).length := by
  have : ((List.range n).map fun i : Nat => (i : Int)) ∈ allL n := mem_allL.2 (idn_asg n)
  exact List.length_pos_of_mem this
/-- The earlier one of two in all of them comes first. -/
theorem allL_lt {n i j : Nat} (hi : i < j) (hj : j < (allL n).length) : lexB ((allL n).getD i []) ((allL n).getD j []) = true := by
  have := List.pairwise_iff_getElem.1 (allL_sorted (n := n)) i j (by omega) hj hi
  simpa [List.getD_eq_getElem?_getD, hj, show i < (allL n).length by omega] using this
end Go.Proofs.Ytehjmakiljhjdaa
namespace Go.Proofs.Ytehjmakiljhjdaa
open Go Go.RowKit Go.Proofs.Ytehjmakiljhjdaa.VW
attribute [local irreducible] W Ops OrdA VW.Ord OrdX
/-- An assignment out of any list. -/
def ordL (l : List Int) : Nat → List Int
  | 0 => []
  | i + 1 =>
    let k : Nat := if i < l.length then (modI (l.getD i 0) ((i : Int) + 1)).toNat else i
    (ordL l i).take k ++ [(i : Int)] ++ (ordL l i).drop k
theorem ordL_beg (l : List Int) : ∀ i, Beg (ordL l i) i i
  | 0 => ⟨rfl, fun x hx => by simp [ordL] at hx, by simp [ordL]⟩
  | i + 1 => by
    obtain ⟨h1, h2, h3⟩ := ordL_beg l i
    simp only [ordL]
    generalize (if i < l.length then (modI (l.getD i 0) ((i : Int) + 1)).toNat else i) = k
    have hp : ((ordL l i).take k ++ [(i : Int)] ++ (ordL l i).drop k).Perm ((i : Int) :: ordL l i) := by
      have h4 := List.take_append_drop k (ordL l i)
      have : ((ordL l i).take k ++ [(i : Int)] ++ (ordL l i).drop k).Perm ((i : Int) :: ((ordL l i).take k ++ (ordL l i).drop k)) := by
        rw [List.append_assoc, List.singleton_append]
        exact List.perm_middle
      rwa [h4] at this
    refine ⟨by rw [hp.length_eq]; simp [h1], fun x hx => ?_, ?_⟩
    · rcases List.mem_cons.1 (hp.mem_iff.1 hx) with e | e
      · omega
      · have := h2 x e; omega
    · rw [hp.nodup_iff, List.nodup_cons]
      exact ⟨fun e => by have := h2 _ e; omega, h3⟩
theorem ordL_asg (l : List Int) (n : Nat) : Asg (ordL l n) n := asg_beg.2 (ordL_beg l n)
set_option maxHeartbeats 1000000 in
theorem order_c {w : World} {lv : Value} {l : List Int} (h : SlI w lv l) {n : Nat} (hn : n ≤ 7) : Calls Try.prog 28 #[lv, .int .i64 (n : Int)] w (Ret fun r w' => OI 3 (Value.int .i64) w w' r (ordL l n)) := by
  have hl := Sl.len h
  obtain ⟨Al, cl, rfl⟩ := Sl.shape h
  refine calls_W (vs := [_, _]) Try.func28 rfl (by kernel_rfl) rfl ?_
  (repeat (first | with_reducible refine W.seq ?_ | with_reducible refine Ops.nil ?_ | with_reducible refine W.region ?_ | refine z_p (kk := ?_) | with_reducible refine W.block ?_))
  refine W.loop (fun m ρ w3 => ∃ (i : Nat) (ov : Value), m = n - i ∧ i ≤ n ∧ ρ = [(0, .slice Al l.length cl), (1, .int .i64 (n : Int)), (5, ov), (6, .int .i64 i)] ∧ OI 3 (Value.int .i64) w w3 ov (ordL l i))
    ⟨_, _, ⟨0, _, rfl, Nat.zero_le _, rfl, OI.nil (Below.refl _ _)⟩, (by repeat (first | exact trivial | refine And.intro rfl ?_))⟩ ?_
  rintro m ρ w3 ⟨i, ov, rfl, hi, rfl, hO⟩
  have hb3 := hO.bel
  have hlen := (ordL_beg l i).1
  (repeat (first | with_reducible refine W.seq ?_ | with_reducible refine Ops.nil ?_ | with_reducible refine W.region ?_ | refine z_p (kk := ?_)))
  (first | refine W.condD rfl (fun hc => ?_) (fun hc => ?_) | refine W.condE rfl (fun hc => ?_) (fun hc => ?_) | refine W.condN rfl (fun hc => ?_) (fun hc => ?_) | refine W.cond rfl (fun hc => ?_) (fun hc => ?_))
  · have hin : i < n := by omega
    obtain ⟨A, cp, rfl⟩ := hO.sh
    have hcap : (ordL l i).length ≤ cp := own_cap hO.own
    have hsl3 : SlI w3 (.slice A (ordL l i).length cp) (ordL l i) := hO.sl
    (repeat (first | with_reducible refine W.seq ?_ | with_reducible refine Ops.nil ?_ | with_reducible refine W.region ?_ | refine z_p (kk := ?_) | with_reducible refine W.skip ?_ | with_reducible refine W.block ?_ | refine z_l (kk := ?_)))
    by_cases hil : i < l.length
    · have hmb := modI_bd (l.getD i 0) (n := (i : Int) + 1) (by omega)
      refine W.condT rfl (by first | rfl | assumption | (simp only [bnf] <;> omega) | (simp only [*, bnf]; done) | fail) ?_
      (repeat (first | with_reducible refine W.region ?_ | refine z_p (kk := ?_) | refine z_a (kk := ?_) | refine z_I (kk := fun _ => ?_)))
      refine Ops.callS rfl rfl rfl rfl rfl (mod_c _ _ _ (by omega) (by omega)) ?_
      obtain ⟨k, hk⟩ := Int.eq_ofNat_of_zero_le hmb.1
      rw [hk] at hmb
      simp only [Int.toNat_natCast, hk]
      (repeat (first | with_reducible refine W.seq ?_ | with_reducible refine Ops.nil ?_ | with_reducible refine W.region ?_ | refine z_p (kk := ?_)))
      refine Ops.slH rfl rfl rfl rfl rfl rfl rfl (by omega) (by omega) ?_
      rw [Int.toNat_natCast]
      refine Ops.appO (enc := Value.int .i64) (w0 := w3) 0 rfl rfl rfl rfl rfl rfl rfl rfl rfl rfl (OI.nil (Below.refl _ _)) (sl_take hsl3 k (by omega)) (Below.refl _ _) (fun _ => rfl) (by simp only [List.length_take, List.length_nil]; omega) (fun v5 w5 hO5 k5 hn5 => ?_)
      rw [List.nil_append] at hO5
      (repeat (first | with_reducible refine W.seq ?_ | with_reducible refine Ops.nil ?_ | with_reducible refine W.region ?_ | refine z_p (kk := ?_)))
      refine Ops.pushO (enc := Value.int .i64) (u := (i : Int)) rfl rfl rfl rfl rfl rfl rfl rfl rfl rfl rfl rfl (fun _ => rfl) rfl hO5 (by simp only [List.length_take]; omega) (fun v6 _ w6 hO6 k6 hn6 => ?_)
      (repeat (first | with_reducible refine Ops.nil ?_ | with_reducible refine W.region ?_ | refine z_p (kk := ?_)))
      refine Ops.slL rfl rfl rfl rfl rfl rfl rfl (by omega) (by omega) hcap (fun A' c' hA' => ?_)
      rw [Int.toNat_natCast] at hA' ⊢
      refine Ops.appO (enc := Value.int .i64) 0 rfl rfl rfl rfl rfl rfl rfl rfl rfl rfl hO6 (sl_drop (c' := c') (Sl.below hsl3 hO6.bel) hA') (Below.refl _ _) (fun _ => rfl) (by simp only [List.length_append, List.length_take, List.length_drop, List.length_cons, List.length_nil]; omega) (fun v7 w7 hO7 k7 hn7 => ?_)
      have hO8 := hO7.up hb3
      have e : (ordL l i).take k ++ [(i : Int)] ++ (ordL l i).drop k = ordL l (i + 1) := by
        simp only [ordL]
        rw [if_pos hil, hk]; rfl
      rw [e] at hO8
      (repeat (first | with_reducible refine Ops.nil ?_ | with_reducible refine W.region ?_ | refine z_p (kk := ?_) | refine z_a (kk := ?_) | with_reducible refine W.endb ?_))
      exact W.endl ⟨_, _, ⟨⟨i + 1, _, rfl, by omega, rfl, hO8⟩, by omega⟩, (by repeat (first | exact trivial | refine And.intro rfl ?_))⟩
    · refine W.condF rfl (by first | rfl | assumption | (simp only [bnf] <;> omega) | (simp only [*, bnf]; done) | fail) ?_
      (repeat (first | with_reducible refine W.seq ?_ | with_reducible refine Ops.nil ?_ | with_reducible refine W.region ?_ | refine z_p (kk := ?_) | with_reducible refine W.skip ?_))
      refine Ops.slH rfl rfl rfl rfl rfl rfl rfl (by omega) (by omega) ?_
      rw [Int.toNat_natCast]
      refine Ops.appO (enc := Value.int .i64) (w0 := w3) 0 rfl rfl rfl rfl rfl rfl rfl rfl rfl rfl (OI.nil (Below.refl _ _)) (sl_take hsl3 i (by omega)) (Below.refl _ _) (fun _ => rfl) (by simp only [List.length_take, List.length_nil]; omega) (fun v5 w5 hO5 k5 hn5 => ?_)
      rw [List.nil_append] at hO5
      (repeat (first | with_reducible refine W.seq ?_ | with_reducible refine Ops.nil ?_ | with_reducible refine W.region ?_ | refine z_p (kk := ?_)))
      refine Ops.pushO (enc := Value.int .i64) (u := (i : Int)) rfl rfl rfl rfl rfl rfl rfl rfl rfl rfl rfl rfl (fun _ => rfl) rfl hO5 (by simp only [List.length_take]; omega) (fun v6 _ w6 hO6 k6 hn6 => ?_)
      (repeat (first | with_reducible refine Ops.nil ?_ | with_reducible refine W.region ?_ | refine z_p (kk := ?_)))
      refine Ops.slL rfl rfl rfl rfl rfl rfl rfl (by omega) (by omega) hcap (fun A' c' hA' => ?_)
      rw [Int.toNat_natCast] at hA' ⊢
      refine Ops.appO (enc := Value.int .i64) 0 rfl rfl rfl rfl rfl rfl rfl rfl rfl rfl hO6 (sl_drop (c' := c') (Sl.below hsl3 hO6.bel) hA') (Below.refl _ _) (fun _ => rfl) (by simp only [List.length_append, List.length_take, List.length_drop, List.length_cons, List.length_nil]; omega) (fun v7 w7 hO7 k7 hn7 => ?_)
      have hO8 := hO7.up hb3
      have e : (ordL l i).take i ++ [(i : Int)] ++ (ordL l i).drop i = ordL l (i + 1) := by
        simp only [ordL]
        rw [if_neg hil]
      rw [e] at hO8
      (repeat (first | with_reducible refine Ops.nil ?_ | with_reducible refine W.region ?_ | refine z_p (kk := ?_) | refine z_a (kk := ?_) | with_reducible refine W.endb ?_))
      exact W.endl ⟨_, _, ⟨⟨i + 1, _, rfl, by omega, rfl, hO8⟩, by omega⟩, (by repeat (first | exact trivial | refine And.intro rfl ?_))⟩
  · have : i = n := by omega
    subst this
    (repeat (first | with_reducible refine W.seq ?_ | with_reducible refine Ops.nil ?_ | with_reducible refine W.region ?_ | refine z_p (kk := ?_) | refine W.exit rfl ?_))
    exact W.fret rfl hO
end Go.Proofs.Ytehjmakiljhjdaa
namespace Go.Proofs.Ytehjmakiljhjdaa.VW
open Go Go.RowKit
theorem RW.congr {w0 w : World} {ov : Value} {cvs : List Value} {n : Nat} {T T' : Nat → List Int} (h : RW w0 w ov cvs n T) (e : ∀ q, q < n → T q = T' q) : RW w0 w ov cvs n T' := ⟨h.o, h.len, fun j hj => by rw [← e j hj]; exact h.rows j hj, h.apart⟩
/-- A list of lists of the call's own, all of them apart. -/
def RL (w0 w : World) (ov : Value) (cvs : List Value) (c : List (List Int)) : Prop := RW w0 w ov cvs c.length (fun q => c.getD q [])
theorem RL.nil {w0 w : World} (h : Below w0.heap.size w0 w) : RL w0 w (.slice none 0 0) [] [] := RW.nil h
theorem RL.push {w0 w1 w2 w' : World} {ov ov' cv : Value} {cvs : List Value} {c : List (List Int)} {xs : List Int} (h : RL w0 w1 ov cvs c) (hR : OI 3 (Value.int .i64) w1 w2 cv xs)
    (hO : OI 23 (fun v : Value => v) w0 w' ov' (cvs ++ [cv])) (k : Kp (fun i => ov.ownBlock = some i) w2 w') (hn : ∀ i, ov'.ownBlock = some i → ov.ownBlock = some i ∨ w2.heap.size ≤ i) : RL w0 w' ov' (cvs ++ [cv]) (c ++ [xs]) := by
  have h1 : RW w0 w1 ov cvs c.length (fun q => (c ++ [xs]).getD q []) := RW.congr h (fun q hq => (appV_getD hq).symm)
  have hR2 : OI 3 (Value.int .i64) w1 w2 cv ((c ++ [xs]).getD c.length []) := by rw [appV_last rfl]; exact hR
  have := RW.push (T := fun q => (c ++ [xs]).getD q []) h1 hR2 hO k hn
  unfold RL
  rw [List.length_append, List.length_singleton]
  exact this
theorem RL.below {w0 w w' : World} {ov : Value} {cvs : List Value} {c : List (List Int)} (h : RL w0 w ov cvs c) (k : Below w.heap.size w w') : RL w0 w' ov cvs c := RW.below h k
theorem RL.up {w0 w1 w : World} {ov : Value} {cvs : List Value} {c : List (List Int)} (h : RL w1 w ov cvs c) (k : Below w0.heap.size w0 w1) : RL w0 w ov cvs c := RW.up h k
theorem RL.rowsM {w0 w : World} {ov : Value} {cvs : List Value} {c : List (List Int)} (h : RL w0 w ov cvs c) : RowsM w ov c := by
  have := RW.rowsM h
  rwa [show (List.range c.length).map (fun q => c.getD q []) = c from List.ext_getElem (by simp) fun i h1 h2 => by simp [List.getD_eq_getElem?_getD, h2]] at this
theorem RL.one {w w' : World} {r : Nat} (h : Mk w w' r (.cells #[.slice none 0 0] 23)) : RL w w' (.slice (some ⟨r, 0, none⟩) 1 1) [.slice none 0 0] [[]] := by
  have hr := h.r_eq
  refine ⟨⟨Below.put (Below.refl _ _) h.kp (fun _ e => e.elim), own_one h, fun k hk => by simp [Value.ownBlock] at hk; omega⟩, rfl, fun j hj => ?_, fun j hj b e => ?_⟩
  · have : j = 0 := by simp at hj; omega
    subst this
    exact OI.nil (Below.put (Below.refl _ _) h.kp (fun _ e => e.elim))
  · have : j = 0 := by simp at hj; omega
    subst this
    simp [Value.ownBlock] at e
end Go.Proofs.Ytehjmakiljhjdaa.VW
namespace Go.Proofs.Ytehjmakiljhjdaa
open Go Go.RowKit Go.Proofs.Ytehjmakiljhjdaa.VW
attribute [local irreducible] W Ops OrdA VW.Ord OrdX
theorem take_dec {a : List Int} {x : Nat} {y : Int} (h : x < a.length) : decide (y ∈ a.take (x + 1)) = (decide (y ∈ a.take x) || decide (a.getD x 0 = y)) := by
  rw [take_succI h, Bool.eq_iff_iff]
  simp only [decide_eq_true_eq, Bool.or_eq_true, List.mem_append, List.mem_singleton]
  exact or_congr Iff.rfl eq_comm
set_option maxHeartbeats 2000000 in
theorem All_c {w : World} {n : Nat} (hn : n ≤ 7) : Calls Try.prog 50 #[.int .i64 (n : Int)] w (Ret fun r w' => ∃ cvs, RL w w' r cvs (allL n)) := by
  refine calls_W (vs := [_]) Try.func50 rfl (by kernel_rfl) rfl ?_
  (repeat (first | with_reducible refine W.seq ?_ | with_reducible refine Ops.nil ?_ | with_reducible refine W.region ?_ | refine z_p (kk := ?_)))
  refine Ops.bs1 rfl rfl rfl rfl rfl rfl rfl rfl rfl (fun w1 r1 hM1 => ?_)
  (repeat (first | with_reducible refine W.seq ?_ | with_reducible refine Ops.nil ?_ | with_reducible refine W.region ?_ | refine z_p (kk := ?_) | with_reducible refine W.block ?_))
  refine W.loop (fun m ρ w3 => ∃ (i : Nat) (ov : Value) (cvs : List Value), m = n - i ∧ i ≤ n ∧ ρ = [(0, .int .i64 (n : Int)), (3, ov), (4, .int .i64 i)] ∧ RL w w3 ov cvs (levL n i))
    ⟨_, _, ⟨0, _, _, rfl, Nat.zero_le _, rfl, RL.one hM1⟩, (by repeat (first | exact trivial | refine And.intro rfl ?_))⟩ ?_
  rintro m ρ w3 ⟨i, ov, cvs, rfl, hi, rfl, hO⟩
  have hL := levL_lt (i := i) hn (by omega)
  have hb3 := hO.o.bel
  have hMo := hO.rowsM
  (repeat (first | with_reducible refine W.seq ?_ | with_reducible refine Ops.nil ?_ | with_reducible refine W.region ?_ | refine z_p (kk := ?_)))
  (first | refine W.condD rfl (fun hc => ?_) (fun hc => ?_) | refine W.condE rfl (fun hc => ?_) (fun hc => ?_) | refine W.condN rfl (fun hc => ?_) (fun hc => ?_) | refine W.cond rfl (fun hc => ?_) (fun hc => ?_))
  · have hin : i < n := by omega
    have hex : ∀ k, k ≤ (levL n i).length → (exL n (levL n i) k).length ≤ 5764801 := fun k hk => Nat.le_trans (exL_len n _ k) (Nat.le_trans (Nat.mul_le_mul hk hn) (by omega))
    obtain ⟨Ao, co, rfl⟩ := hMo.sl
    (repeat (first | with_reducible refine W.seq ?_ | with_reducible refine Ops.nil ?_ | with_reducible refine W.region ?_ | refine z_p (kk := ?_) | with_reducible refine W.skip ?_ | with_reducible refine W.block ?_))
    refine W.loop (fun m ρ w4 => ∃ (k : Nat) (nv : Value) (nvs : List Value), m = (levL n i).length - k ∧ k ≤ (levL n i).length ∧ ρ = [(0, .int .i64 (n : Int)), (3, .slice Ao (levL n i).length co), (4, .int .i64 i), (5, nv), (6, .int .i64 k)] ∧ RL w3 w4 nv nvs (exL n (levL n i) k))
      ⟨_, _, ⟨0, _, _, rfl, Nat.zero_le _, rfl, RL.nil (Below.refl _ _)⟩, (by repeat (first | exact trivial | refine And.intro rfl ?_))⟩ ?_
    rintro m ρ w4 ⟨k, nv, nvs, rfl, hk, rfl, hN⟩
    have hb4 := hN.o.bel
    have hek := hex k hk
    (repeat (first | with_reducible refine W.seq ?_ | with_reducible refine Ops.nil ?_ | with_reducible refine W.region ?_ | refine z_p (kk := ?_) | refine z_l (kk := ?_)))
    (first | refine W.condD rfl (fun hc => ?_) (fun hc => ?_) | refine W.condE rfl (fun hc => ?_) (fun hc => ?_) | refine W.condN rfl (fun hc => ?_) (fun hc => ?_) | refine W.cond rfl (fun hc => ?_) (fun hc => ?_))
    · have hkl : k < (levL n i).length := by omega
      have hal : ((levL n i).getD k []).length = i := ((mem_levL i _).1 (getD_memR hkl)).1
      have hrow : row (levL n i) k = (levL n i).getD k [] := by simp [row]
      generalize ha : (levL n i).getD k [] = a at hal hrow
      (repeat (first | with_reducible refine W.seq ?_ | with_reducible refine Ops.nil ?_ | with_reducible refine W.region ?_ | refine z_p (kk := ?_) | with_reducible refine W.skip ?_ | with_reducible refine W.block ?_))
      refine W.loop (fun m ρ w5 => ∃ (j : Nat) (nv : Value) (nvs : List Value), m = n - j ∧ j ≤ n ∧ ρ = [(0, .int .i64 (n : Int)), (3, .slice Ao (levL n i).length co), (4, .int .i64 i), (5, nv), (6, .int .i64 k), (7, .int .i64 j)] ∧ RL w3 w5 nv nvs (exL n (levL n i) k ++ exR a j))
        ⟨_, _, ⟨0, _, _, rfl, Nat.zero_le _, rfl, by rw [exR, List.append_nil]; exact hN⟩, (by repeat (first | exact trivial | refine And.intro rfl ?_))⟩ ?_
      clear hN
      rintro m ρ w5 ⟨j, nv, nvs, rfl, hj, rfl, hN⟩
      have hb5 := hN.o.bel
      have hnl := hN.len
      rw [List.length_append] at hnl
      have hxr := exR_len a j
      (repeat (first | with_reducible refine W.seq ?_ | with_reducible refine Ops.nil ?_ | with_reducible refine W.region ?_ | refine z_p (kk := ?_)))
      (first | refine W.condD rfl (fun hc => ?_) (fun hc => ?_) | refine W.condE rfl (fun hc => ?_) (fun hc => ?_) | refine W.condN rfl (fun hc => ?_) (fun hc => ?_) | refine W.cond rfl (fun hc => ?_) (fun hc => ?_))
      · have hjn : j < n := by omega
        (repeat (first | with_reducible refine W.seq ?_ | with_reducible refine Ops.nil ?_ | with_reducible refine W.region ?_ | refine z_p (kk := ?_) | with_reducible refine W.skip ?_ | with_reducible refine W.block ?_))
        refine W.loop (fun m ρ w6 => ∃ (x : Nat), m = i - x ∧ x ≤ i ∧ w6 = w5 ∧ ρ = [(0, .int .i64 (n : Int)), (3, .slice Ao (levL n i).length co), (4, .int .i64 i), (5, nv), (6, .int .i64 k), (7, .int .i64 j), (8, .bool (decide ((j : Int) ∈ a.take x))), (9, .int .i64 x)])
          ⟨_, _, ⟨0, rfl, Nat.zero_le _, rfl, rfl⟩, (by repeat (first | exact trivial | refine And.intro rfl ?_))⟩ ?_
        rintro m ρ w6 ⟨x, rfl, hx, rfl, rfl⟩
        (repeat (first | with_reducible refine W.seq ?_ | with_reducible refine Ops.nil ?_ | with_reducible refine W.region ?_ | refine z_p (kk := ?_)))
        (first | refine W.condD rfl (fun hc => ?_) (fun hc => ?_) | refine W.condE rfl (fun hc => ?_) (fun hc => ?_) | refine W.condN rfl (fun hc => ?_) (fun hc => ?_) | refine W.cond rfl (fun hc => ?_) (fun hc => ?_))
        · have hxi : x < i := by omega
          have htd := take_dec (a := a) (y := (j : Int)) (x := x) (by omega)
          by_cases hm : (j : Int) ∈ a.take x
          · rw [decide_eq_true hm] at htd ⊢
            (repeat (first | with_reducible refine W.seq ?_ | with_reducible refine Ops.nil ?_ | with_reducible refine W.region ?_ | refine z_p (kk := ?_) | refine z_a (kk := ?_) | refine z_n (kk := ?_) | with_reducible refine W.skip ?_ | with_reducible refine W.endb ?_ | with_reducible refine W.block ?_))
            refine W.endl ⟨_, _, ⟨⟨x + 1, rfl, by omega, rfl, rfl⟩, by omega⟩, ?_⟩
            rw [htd]
            exact (by repeat (first | exact trivial | refine And.intro rfl ?_))
          · rw [decide_eq_false hm] at htd ⊢
            have hrl : (row (levL n i) k).length = i := by rw [hrow]; exact hal
            (repeat (first | with_reducible refine W.seq ?_ | with_reducible refine Ops.nil ?_ | with_reducible refine W.region ?_ | refine z_p (kk := ?_) | refine z_a (kk := ?_) | refine z_y (kk := ?_) | with_reducible refine W.skip ?_ | with_reducible refine W.endb ?_ | with_reducible refine W.block ?_ | refine z_I (kk := fun _ => ?_) | refine z_r (kk := fun _ _ _ _ => ?_)))
            refine W.endl ⟨_, _, ⟨⟨x + 1, rfl, by omega, rfl, rfl⟩, by omega⟩, ?_⟩
            rw [htd, ← hrow]
            exact (by repeat (first | exact trivial | refine And.intro rfl ?_))
        · have hxi : x = i := by omega
          subst hxi
          rw [show a.take x = a by rw [← hal, List.take_length]]
          by_cases hm : (j : Int) ∈ a
          · rw [decide_eq_true hm]
            (repeat (first | with_reducible refine W.seq ?_ | with_reducible refine Ops.nil ?_ | with_reducible refine W.region ?_ | refine z_p (kk := ?_) | refine W.exit rfl ?_))
            refine W.condF rfl (by first | rfl | assumption | (simp only [bnf] <;> omega) | (simp only [*, bnf]; done) | fail) ?_
            (repeat (first | with_reducible refine Ops.nil ?_ | with_reducible refine W.region ?_ | refine z_p (kk := ?_) | refine z_a (kk := ?_) | with_reducible refine W.skip ?_ | with_reducible refine W.endb ?_))
            refine W.endl ⟨_, _, ⟨⟨j + 1, nv, nvs, rfl, by omega, rfl, ?_⟩, by omega⟩, (by repeat (first | exact trivial | refine And.intro rfl ?_))⟩
            rw [exR, if_pos hm, List.append_nil]
            exact hN
          · rw [decide_eq_false hm]
            (repeat (first | with_reducible refine W.seq ?_ | with_reducible refine Ops.nil ?_ | with_reducible refine W.region ?_ | refine z_p (kk := ?_) | refine W.exit rfl ?_))
            refine W.condT rfl (by first | rfl | assumption | (simp only [bnf] <;> omega) | (simp only [*, bnf]; done) | fail) ?_
            (repeat (first | with_reducible refine W.seq ?_ | with_reducible refine Ops.nil ?_ | with_reducible refine W.region ?_ | refine z_p (kk := ?_) | refine z_r (kk := fun _ _ _ _ => ?_)))
            rename_i hsl
            have hrl : (row (levL n x) k).length = x := by rw [hrow]; exact hal
            refine Ops.appO (enc := Value.int .i64) (w0 := w6) 0 rfl rfl rfl rfl rfl rfl rfl rfl rfl rfl (OI.nil (Below.refl _ _)) (Sl.below hsl hb5) (Below.refl _ _) (fun _ => rfl) (by simp only [List.length_nil]; omega) (fun v7 w7 hO7 k7 hn7 => ?_)
            rw [List.nil_append, hrow] at hO7
            (repeat (first | with_reducible refine Ops.nil ?_ | with_reducible refine W.region ?_ | refine z_p (kk := ?_)))
            refine Ops.pushO (enc := Value.int .i64) (u := (j : Int)) rfl rfl rfl rfl rfl rfl rfl rfl rfl rfl rfl rfl (fun _ => rfl) rfl hO7 (by omega) (fun v8 _ w8 hO8 k8 hn8 => ?_)
            have hN8 := hN.below hO8.bel
            have h81 : v8.oneCell' = true := by obtain ⟨A, c, rfl⟩ := hO8.sh; rfl
            refine Ops.pushO (enc := fun v : Value => v) (u := v8) rfl rfl rfl rfl rfl rfl rfl rfl rfl rfl rfl rfl (fun _ => rfl) h81 hN8.o (by omega) (fun v9 p w9 hO9 k9 hn9 => ?_)
            have hN9 := hN.push hO8 hO9 k9 hn9
            (repeat (first | with_reducible refine Ops.nil ?_ | with_reducible refine W.region ?_ | refine z_p (kk := ?_) | refine z_a (kk := ?_) | with_reducible refine W.endb ?_))
            refine W.endl ⟨_, _, ⟨⟨j + 1, v9, nvs ++ [v8], rfl, by omega, rfl, ?_⟩, by omega⟩, (by repeat (first | exact trivial | refine And.intro rfl ?_))⟩
            rw [exR, if_neg hm, ← List.append_assoc]
            exact hN9
      · have : j = n := by omega
        subst this
        (repeat (first | with_reducible refine Ops.nil ?_ | with_reducible refine W.region ?_ | refine z_p (kk := ?_) | refine z_a (kk := ?_) | with_reducible refine W.endb ?_ | refine W.exit rfl ?_))
        refine W.endl ⟨_, _, ⟨⟨k + 1, nv, nvs, rfl, by omega, rfl, ?_⟩, by omega⟩, (by repeat (first | exact trivial | refine And.intro rfl ?_))⟩
        rw [exL, ha]
        exact hN
    · have : k = (levL n i).length := by omega
      subst this
      (repeat (first | with_reducible refine Ops.nil ?_ | with_reducible refine W.region ?_ | refine z_p (kk := ?_) | refine z_a (kk := ?_) | with_reducible refine W.endb ?_ | refine W.exit rfl ?_))
      refine W.endl ⟨_, _, ⟨⟨i + 1, nv, nvs, rfl, by omega, rfl, ?_⟩, by omega⟩, (by repeat (first | exact trivial | refine And.intro rfl ?_))⟩
      exact RL.up hN hb3
  · have : i = n := by omega
    subst this
    (repeat (first | with_reducible refine W.seq ?_ | with_reducible refine Ops.nil ?_ | with_reducible refine W.region ?_ | refine z_p (kk := ?_) | refine W.exit rfl ?_))
    exact W.fret rfl ⟨cvs, hO⟩
end Go.Proofs.Ytehjmakiljhjdaa
