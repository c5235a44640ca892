/- A part of the walk: what this seat's statements share. -/
import Derived.Test.YtdiljpnfochndaaZG10
import Derived.Test.YtdiljpnfochndaaZG7
import Derived.Test.YtdiljpnfochndaaZG3
import Derived.Test.YtdiljpnfochndaaZG5
import Derived.Test.YtdiljpnfochndaaZG6
import Derived.Test.YtdiljpnfochndaaZG2
set_option linter.unusedVariables false
set_option linter.unusedSimpArgs false
set_option linter.unusedSectionVars false
namespace Go.Proofs.Ytdiljpnfochndaa
open Go Go.RowKit Go.Proofs.Ytdiljpnfochndaa.VW
open Go.Proofs.Ytdiljpnfochndaa.HP (Nd kid wor leafB rd evB gameOf gameOf_TF TF TK ValP k_ PI PlanS bestM' Dn)
attribute [local irreducible] W Ops OrdA VW.Ord OrdX
def chB (l : List Nd) (vs : List Int) (i : Int) : Int := bestM' vs (rd vs i) (kid l i)
theorem chB_mem {l : List Nd} {dep vs : List Int} {wf : Int → Int} (hv : ValP l dep wf vs) {i : Nat} (hi : i < l.length) (hl : leafB l i = false) : chB l vs i ∈ kid l i := (Go.Proofs.Ytdiljpnfochndaa.HP.bestM_mem (Go.Proofs.Ytdiljpnfochndaa.HP.val_att hv hi hl)).1
theorem plan1_c {w : World} {g b4 b6 : Nat} {l : List Nd} {dep vs : List Int} {sv : Value} (hG : Game w g l dep) (hT : TF l dep) (h4 : Blk w b4 #[.pointer (some ⟨g, 0, none⟩)] 69) (h6 : Blk w b6 #[sv] 24) (hv : SlI w sv vs) (hvl : vs.length = l.length) (i : Nat) (hi : i < l.length) :
    Calls Try.prog 79 #[.int .i64 i, .pointer (some ⟨b4, 0, none⟩), .pointer (some ⟨b6, 0, none⟩)] w (Ret fun v w' => v = .int .i64 (chB l vs i) ∧ Below w.heap.size w w') := by
  refine calls_W (vs := [_, _, _]) Try.func79 rfl (by kernel_rfl) rfl ?_
  (repeat (first | with_reducible refine W.seq ?_ | with_reducible refine Ops.nil ?_ | with_reducible refine W.region ?_ | refine z_p (kk := ?_) | refine z_d (kk := ?_)))
  refine Ops.call rfl rfl rfl rfl rfl (best_c hG hv hvl (i : Int) (by omega) (by omega) (fun j hj => by have := hT.kin i j hi hj; simp only [k_] at this; omega)) (fun r w1 hR => ?_)
  obtain ⟨rfl, hb1⟩ := hR
  (repeat (first | with_reducible refine Ops.nil ?_ | refine z_p (kk := ?_)))
  exact W.fret rfl ⟨by rw [bestM_eq]; rfl, hb1⟩
set_option maxHeartbeats 1000000 in
theorem planF_c {w : World} {v : Value} {l : List Nd} (hT : TreeM w v l) (hl : l.length ≤ 9223372036854775807) :
    Calls Try.prog 43 #[v] w (Ret fun r w' => Below w.heap.size w w' ∧ match gameOf l with
      | none => r = .tuple #[.slice none 0 0, .int .i64 2]
      | some dep => ∃ vs u f out, ValP l dep (wor l) vs ∧ PlanS l dep (chB l vs) f out ∧ r = .tuple #[u, .int .i64 0] ∧ OI 3 (Value.int .i64) w w' u out) := by
  refine calls_W (vs := [_]) Try.func43 rfl (by kernel_rfl) rfl ?_
  (repeat (first | with_reducible refine W.seq ?_ | with_reducible refine Ops.nil ?_ | with_reducible refine W.region ?_ | refine z_p (kk := ?_)))
  refine Ops.call rfl rfl rfl rfl rfl (newGame_c hT hl) (fun r w1 hR => ?_)
  obtain ⟨hb1, hR⟩ := hR
  cases hg : gameOf l with
  | none =>
    rw [hg] at hR
    obtain ⟨p, hp1, rfl⟩ := hR
    (repeat (first | refine z_p (kk := ?_)))
    refine Ops.alloc rfl rfl rfl rfl (fun w2 b4 hM2 => ?_)
    refine Ops.st rfl rfl rfl rfl rfl rfl hp1 hM2.at_ (by decide) (fun w3 hu => ?_)
    have k3 := hM2.kp.trans hu.kp
    have e2 := hM2.r_eq
    have hb3 := Below.put hb1 k3 (fun i hi => by rcases hi with hi | hi; exact hi.elim; have := hb1.size; omega)
    (repeat (first | with_reducible refine W.seq ?_ | with_reducible refine Ops.nil ?_ | with_reducible refine W.region ?_ | refine z_p (kk := ?_)))
    refine W.condT rfl (by first | rfl | assumption | (simp only [bnf] <;> omega) | (simp only [*, bnf]; done) | fail) ?_
    (repeat (first | with_reducible refine W.seq ?_ | with_reducible refine Ops.nil ?_ | with_reducible refine W.region ?_ | refine z_p (kk := ?_)))
    exact W.fret rfl ⟨hb3, rfl⟩
  | some dep =>
    rw [hg] at hR
    obtain ⟨g, rfl, hgs, hG⟩ := hR
    have hTF := gameOf_TF hg
    (repeat (first | refine z_p (kk := ?_)))
    refine Ops.alloc rfl rfl rfl rfl (fun w2 b4 hM2 => ?_)
    refine Ops.st rfl rfl rfl rfl rfl rfl rfl hM2.at_ (by decide) (fun w3 hu3 => ?_)
    have k3 := hM2.kp.trans hu3.kp
    have e2 := hM2.r_eq
    have hb13 : Below w1.heap.size w1 w3 := Below.put (Below.refl _ _) k3 (fun i hi => by rcases hi with hi | hi; exact hi.elim; omega)
    have hb3 := Below.via hb1 hb13
    have hB4 := hu3.blk
    have hG3 := hG.below hb13
    (repeat (first | with_reducible refine W.seq ?_ | with_reducible refine Ops.nil ?_ | with_reducible refine W.region ?_ | refine z_p (kk := ?_)))
    refine W.condF rfl (by first | rfl | assumption | (simp only [bnf] <;> omega) | (simp only [*, bnf]; done) | fail) ?_
    (repeat (first | with_reducible refine W.seq ?_ | with_reducible refine W.region ?_ | refine z_p (kk := ?_) | with_reducible refine W.skip ?_ | refine z_d (kk := ?_)))
    refine Ops.call rfl rfl rfl rfl rfl (values_c hG3 hTF (Clo.worth hG3)) (fun r w4 hR => ?_)
    obtain ⟨vs, hvs, hI⟩ := hR
    have hb4 := Below.via hb3 hI.bel
    have hG4 := hG3.below hI.bel
    have hB44 := hB4.kp (Kp.of_below (S := fun _ => False) hI.bel) (fun e => e)
    have hvl := hvs.len
    have hv4 : SlI w4 r vs := hI.sl
    have hr1 : r.oneCell' = true := by obtain ⟨A, c, rfl⟩ := Sl.sl hv4; rfl
    refine Ops.alloc rfl rfl rfl rfl (fun w5 b6 hM5 => ?_)
    refine Ops.st rfl rfl rfl rfl rfl rfl hr1 hM5.at_ (by decide) (fun w6 hu6 => ?_)
    have k6 := hM5.kp.trans hu6.kp
    have e5 := hM5.r_eq
    have hb46 : Below w4.heap.size w4 w6 := Below.put (Below.refl _ _) k6 (fun i hi => by rcases hi with hi | hi; exact hi.elim; omega)
    have hb6 := Below.via hb4 hb46
    have hG6 := hG4.below hb46
    have hB46 := hB44.kp (Kp.of_below (S := fun _ => False) hb46) (fun e => e)
    have hB66 := hu6.blk
    have hv6 := Sl.below hv4 hb46
    (repeat (first | with_reducible refine W.seq ?_ | with_reducible refine Ops.nil ?_ | with_reducible refine W.region ?_ | refine z_p (kk := ?_) | refine z_d (kk := ?_)))
    refine Ops.call rfl rfl rfl rfl rfl (plan_c (wB := w6) (first := []) (cap := [.pointer (some ⟨b4, 0, none⟩), .pointer (some ⟨b6, 0, none⟩)]) (fi := 79) (ch := chB l vs) (S := fun _ => False) (J := fun _ _ => True) hG6 (Below.refl _ _) hTF rfl (fun i hi hlf => chB_mem hvs hi hlf) (fun t i w' hi hlf hev hb' _ => ?_) (fun i h => h.elim) (fun _ _ _ _ _ _ _ => trivial) trivial) (fun r w7 hR => ?_)
    · exact (plan1_c (hG6.below hb') hTF (hB46.kp (Kp.of_below (S := fun _ => False) hb') (fun e => e)) (hB66.kp (Kp.of_below (S := fun _ => False) hb') (fun e => e)) (Sl.below hv6 hb') hvl i hi).mono fun e w'' ⟨v, he, hv, hb''⟩ => ⟨v, he, hv, Below.via hb' hb'', trivial, Kp.of_below hb''⟩
    · obtain ⟨f, out, hP, hO, _⟩ := hR
      (repeat (first | with_reducible refine Ops.nil ?_ | refine z_p (kk := ?_)))
      exact W.fret rfl ⟨Below.via hb6 hO.bel, vs, _, f, out, hvs, hP, rfl, hO.up hb6⟩
/-- The reference's reached nodes behind j children of node i. -/
structure RP (l : List Nd) (dep : List Int) (ch : Int → Int) (i j : Nat) (bs : List Bool) : Prop where
  len : bs.length = l.length
  r0 : bs.getD 0 false = true
  step : ∀ a b : Nat, Dn i j a b → b < (kid l a).length → bs.getD (k_ l a b).toNat false = (bs.getD a false && (!evB dep a || decide (k_ l a b = ch a)))
theorem RP.next {l : List Nd} {dep : List Int} {ch : Int → Int} {i j : Nat} {bs : List Bool} {x : Bool} (h : RP l dep ch i j bs) (hT : TF l dep) (hi : i < l.length) (hj : j < (kid l i).length) (hx : x = (bs.getD i false && (!evB dep i || decide (k_ l i j = ch i)))) : RP l dep ch i (j + 1) (bs.set (k_ l i j).toNat x) := by
  have hk := hT.kin i j hi hj
  have hl := h.len
  refine ⟨by simp [hl], by rw [bgetD_set_ne (by omega)]; exact h.r0, fun a b hd hb => ?_⟩
  have ha : a ≤ i := by unfold Dn at hd; omega
  rw [bgetD_set_ne (show (k_ l i j).toNat ≠ a by omega)]
  by_cases e : a = i ∧ b = j
  · obtain ⟨rfl, rfl⟩ := e
    rw [bgetD_set_eq (by omega), hx]
  · have hka := hT.kin a b (by omega) hb
    rw [bgetD_set_ne (fun e2 => e (by have := hT.inj i j a b hi hj (by omega) hb (by omega); omega))]
    exact h.step a b (by unfold Dn at *; omega) hb
theorem RP.row {l : List Nd} {dep : List Int} {ch : Int → Int} {i : Nat} {bs : List Bool} (h : RP l dep ch i (kid l i).length bs) : RP l dep ch (i + 1) 0 bs :=
  ⟨h.len, h.r0, fun a b hd hb => h.step a b (by unfold Dn at *; by_cases e : a = i; subst e; exact .inr ⟨rfl, hb⟩; omega) hb⟩
def fB (n : Nat) (bs : List Bool) (c : Int) : Bool := decide (0 ≤ c ∧ c < n) && bs.getD c.toNat false
theorem fB_at {n i : Nat} {bs : List Bool} (h : i < n) : fB n bs i = bs.getD i false := by
  unfold fB
  rw [decide_eq_true ⟨by omega, by omega⟩]
  simp
theorem RP.plan {l : List Nd} {dep : List Int} {ch : Int → Int} {bs : List Bool} {out : List Int} (h : RP l dep ch l.length 0 bs) (hT : TF l dep) (hol : out.length = l.length) (ho : ∀ j : Nat, j < l.length → out.getD j 0 = if bs.getD j false && evB dep j && !leafB l j then ch j else -1) : PlanS l dep ch (fB l.length bs) out := by
  have hn := hT.n1
  refine ⟨by rw [show (0 : Int) = ((0 : Nat) : Int) from rfl, fB_at (by omega)]; exact h.r0, fun a b ha hb => ?_, fun c hc => ?_, hol, fun j hj => by rw [fB_at hj]; exact ho j hj, fun j h1 h2 => by omega⟩
  · have hk := hT.kin a b ha hb
    rw [fB_at ha, ← h.step a b (.inl ha) hb]
    unfold fB
    rw [decide_eq_true ⟨by omega, by omega⟩]
    rfl
  · unfold fB at hc
    simp only [Bool.and_eq_true, decide_eq_true_eq] at hc
    by_cases e : c = 0
    · exact .inl e
    · obtain ⟨a, b, ha, hb, hk⟩ := hT.cov c.toNat (by omega) (by omega)
      exact .inr ⟨a, b, ha, hb, by omega⟩
set_option maxHeartbeats 4000000 in
theorem refPlan_c {w : World} {v : Value} {l : List Nd} {dep : List Int} (hTr : TreeM w v l) (hT : TF l dep) :
    Calls Try.prog 46 #[v] w (Ret fun r w' => ∃ vs f out, ValP l dep (wor l) vs ∧ PlanS l dep (chB l vs) f out ∧ OI 3 (Value.int .i64) w w' r out) := by
  obtain ⟨At, ct, rfl⟩ := hTr.sl
  have hn1 := hT.n1
  have hn60 := hT.n60
  refine calls_W (vs := [_]) Try.func46 rfl (by kernel_rfl) rfl ?_
  (repeat (first | with_reducible refine W.seq ?_ | with_reducible refine Ops.nil ?_ | with_reducible refine W.region ?_ | refine z_p (kk := ?_)))
  refine Ops.call rfl rfl rfl rfl rfl (refValues_c hTr hT) (fun r w1 hR => ?_)
  obtain ⟨vs, hI, hvs⟩ := hR
  have hb1 := hI.bel
  have hvl := hvs.len
  have hT1 := hTr.below hb1
  have hv1 : SlI w1 r vs := hI.sl
  obtain ⟨Av, cv, rfl⟩ := Sl.sl hv1
  (repeat (first | refine z_p (kk := ?_)))
  refine Ops.call rfl rfl rfl rfl rfl (even_c hT1 hT) (fun r w2 hR => ?_)
  obtain ⟨es, hE, hel, hev⟩ := hR
  have hb2 := Below.via hb1 hE.bel
  have hT2 := hT1.below hE.bel
  have hv2 := Sl.below hv1 hE.bel
  have hE2 : SlB w2 r es := hE.sl
  obtain ⟨Ae, ce, rfl⟩ := Sl.sl hE2
  clear hT1 hv1 hE hI
  (repeat (first | with_reducible refine W.seq ?_ | with_reducible refine Ops.nil ?_ | with_reducible refine W.region ?_ | refine z_p (kk := ?_) | refine z_l (kk := ?_)))
  refine Ops.mkO (w0 := w2) Value.bool false rfl rfl rfl rfl rfl rfl rfl rfl rfl (by omega) rfl (Below.refl _ _) (fun w3 dr hO3 k3 _ => ?_)
  have hlr : (List.replicate l.length false).length = l.length := by simp
  generalize List.replicate l.length false = os3 at *
  (repeat (first | with_reducible refine W.seq ?_ | with_reducible refine Ops.nil ?_ | with_reducible refine W.region ?_ | refine z_p (kk := ?_)))
  refine Ops.wrO (i := 0) (enc := Value.bool) rfl rfl rfl rfl rfl rfl rfl rfl rfl rfl rfl rfl (by simp) rfl hO3 (by omega) (fun w4 _ hO4 k4 _ => ?_)
  have hP4 : RP l dep (chB l vs) 0 0 (os3.set 0 true) := ⟨by simp [hlr], bgetD_set_eq (by omega), fun a b hd => by unfold Dn at hd; omega⟩
  generalize os3.set 0 true = os4 at *
  clear hO3
  (repeat (first | with_reducible refine W.seq ?_ | with_reducible refine Ops.nil ?_ | with_reducible refine W.region ?_ | refine z_p (kk := ?_) | with_reducible refine W.block ?_))
  refine W.loop (fun m ρ w5 => ∃ (i : Nat) (ov : Value) (out : List Int) (bs : List Bool), m = l.length - i ∧ i ≤ l.length ∧ ρ = [(0, .slice At l.length ct), (3, .slice Av vs.length cv), (4, .slice Ae es.length ce), (5, .slice (some ⟨dr, 0, none⟩) l.length l.length), (6, ov), (7, .int .i64 i)] ∧ OI 3 (Value.int .i64) w2 w5 ov out ∧ OI 4 Value.bool w2 w5 (.slice (some ⟨dr, 0, none⟩) l.length l.length) bs ∧ ov.ownBlock ≠ some dr ∧ RP l dep (chB l vs) i 0 bs ∧ out.length = i ∧ ∀ j : Nat, j < i → out.getD j 0 = if bs.getD j false && evB dep j && !leafB l j then chB l vs j else -1)
    ⟨_, _, ⟨0, _, _, _, rfl, Nat.zero_le _, rfl, OI.nil hO4.bel, hO4, by simp [Value.ownBlock], hP4, rfl, fun j hj => by omega⟩, (by repeat (first | exact trivial | refine And.intro rfl ?_))⟩ ?_
  clear hO4 hP4
  rintro m ρ w5 ⟨i, ov, out, bs, rfl, hi, rfl, hO, hB, hne, hP, hol, ho⟩
  have hb5 := hO.bel
  have hbl := hP.len
  (repeat (first | with_reducible refine W.seq ?_ | with_reducible refine Ops.nil ?_ | with_reducible refine W.region ?_ | refine z_p (kk := ?_) | refine z_l (kk := ?_)))
  (first | refine W.condD rfl (fun hc => ?_) (fun hc => ?_) | refine W.condE rfl (fun hc => ?_) (fun hc => ?_) | refine W.condN rfl (fun hc => ?_) (fun hc => ?_) | refine W.cond rfl (fun hc => ?_) (fun hc => ?_))
  · have hil : i < l.length := by omega
    have hevi := hev i hil
    have hkl := hT.klen i hil
    have hlfk : leafB l i = decide ((kid l i).length = 0) := by unfold leafB; cases kid l i <;> simp
    (repeat (first | with_reducible refine W.seq ?_ | with_reducible refine Ops.nil ?_ | with_reducible refine W.region ?_ | refine z_p (kk := ?_) | with_reducible refine W.skip ?_ | with_reducible refine W.block ?_ | refine z_J (kk := fun _ => ?_)))
    refine Ops.cut (fun ρ w' => ∃ b : Bool, b = (bs.getD i false && evB dep i && !leafB l i) ∧ ρ = [(0, .slice At l.length ct), (3, .slice Av vs.length cv), (4, .slice Ae es.length ce), (5, .slice (some ⟨dr, 0, none⟩) l.length l.length), (6, ov), (7, .int .i64 i), (8, .int .i64 (-1)), (43, .bool b)] ∧ Below w5.heap.size w5 w') ?_ ?_
    · cases hbi : bs.getD i false with
      | false =>
        (repeat (first | with_reducible refine Ops.nil ?_ | refine z_p (kk := ?_) | refine z_n (kk := ?_)))
        refine W.endl ⟨_, ⟨_, ?_, rfl, Below.refl _ _⟩, (by repeat (first | exact trivial | refine And.intro rfl ?_))⟩
        simp
      | true =>
        cases hei : evB dep i with
        | false =>
          have hevi2 : es.getD i false = false := by rw [hevi, hei]
          (repeat (first | with_reducible refine Ops.nil ?_ | refine z_p (kk := ?_) | refine z_y (kk := ?_) | refine z_n (kk := ?_) | refine z_J (kk := fun _ => ?_) | refine z_g (kk := ?_)))
          refine W.endl ⟨_, ⟨_, ?_, rfl, Below.refl _ _⟩, (by repeat (first | exact trivial | refine And.intro rfl ?_))⟩
          simp
        | true =>
          have hevi2 : es.getD i false = true := by rw [hevi, hei]
          (repeat (first | refine z_p (kk := ?_) | refine z_y (kk := ?_) | refine z_J (kk := fun _ => ?_) | refine z_s (kk := fun _ _ _ _ => ?_) | refine z_h (kk := ?_)))
          refine Ops.call rfl rfl rfl rfl rfl (leaf_c (Sl.below (by assumption) hb5) rfl) (fun r w6 hR => ?_)
          obtain ⟨rfl, hb6⟩ := hR
          cases hlf : leafB l i with
          | true =>
            have hk0 : (kid l i).length = 0 := of_decide_eq_true (by rw [← hlfk]; exact hlf)
            (repeat (first | with_reducible refine Ops.nil ?_ | refine z_p (kk := ?_) | refine z_y (kk := ?_)))
            refine W.endl ⟨_, ⟨_, ?_, rfl, hb6⟩, (by repeat (first | exact trivial | refine And.intro rfl ?_))⟩
            simp [hk0]
          | false =>
            have hk0 : ¬ (kid l i).length = 0 := of_decide_eq_false (by rw [← hlfk]; exact hlf)
            (repeat (first | with_reducible refine Ops.nil ?_ | refine z_p (kk := ?_) | refine z_y (kk := ?_)))
            refine W.endl ⟨_, ⟨_, ?_, rfl, hb6⟩, (by repeat (first | exact trivial | refine And.intro rfl ?_))⟩
            simp [hk0]
    rintro ρ w6 ⟨b, hbe, rfl, hb6⟩
    subst hbe
    have hO6 := hO.below hb6
    have hB6 := hB.below hb6
    have hb26 := hO6.bel
    refine W.cut (fun ρ w' => ρ = [(0, .slice At l.length ct), (3, .slice Av vs.length cv), (4, .slice Ae es.length ce), (5, .slice (some ⟨dr, 0, none⟩) l.length l.length), (6, ov), (7, .int .i64 i), (8, .int .i64 (if bs.getD i false && evB dep i && !leafB l i then chB l vs i else -1))] ∧ Below w6.heap.size w6 w') ?_ ?_
    · cases hgo : (bs.getD i false && evB dep i && !leafB l i) with
      | false =>
        refine W.condF rfl (by first | rfl | assumption | (simp only [bnf] <;> omega) | (simp only [*, bnf]; done) | fail) ?_
        (repeat (first | with_reducible refine W.skip ?_))
        exact W.endl ⟨_, ⟨rfl, Below.refl _ _⟩, (by repeat (first | exact trivial | refine And.intro rfl ?_))⟩
      | true =>
        have hlf : leafB l i = false := by
          simp only [Bool.and_eq_true, Bool.not_eq_true'] at hgo
          exact hgo.2
        refine W.condT rfl (by first | rfl | assumption | (simp only [bnf] <;> omega) | (simp only [*, bnf]; done) | fail) ?_
        (repeat (first | with_reducible refine W.region ?_ | refine z_p (kk := ?_)))
        refine Ops.call rfl rfl rfl rfl rfl (refFirst_c (hT2.below hb26) hT (Sl.below hv2 hb26) hvl hil (Go.Proofs.Ytdiljpnfochndaa.HP.val_att hvs hil hlf)) (fun r w7 hR => ?_)
        obtain ⟨rfl, hb7⟩ := hR
        (repeat (first | with_reducible refine Ops.nil ?_ | refine z_p (kk := ?_)))
        exact W.endl ⟨_, ⟨rfl, hb7⟩, (by repeat (first | exact trivial | refine And.intro rfl ?_))⟩
    generalize hnx : (if bs.getD i false && evB dep i && !leafB l i then chB l vs i else -1) = nx at *
    rintro ρ w7 ⟨rfl, hb7⟩
    have hO7 := hO6.below hb7
    have hB7 := hB6.below hb7
    clear hO hB hO6 hB6 hb26 hb6 hb7
    (repeat (first | with_reducible refine W.seq ?_ | with_reducible refine W.region ?_ | refine z_p (kk := ?_)))
    refine Ops.pushO (enc := Value.int .i64) rfl rfl rfl rfl rfl rfl rfl rfl rfl rfl rfl rfl (fun _ => rfl) rfl hO7 (by omega) (fun lv' _ w8 hO8 k8 hn8 => ?_)
    have hB8 := hB7.kp k8 (fun q hq => ⟨hO7.ge q hq, fun e => by simp [Value.ownBlock] at e; exact hne (by rw [hq, e])⟩)
    have hne8 : lv'.ownBlock ≠ some dr := fun e => by
      rcases hn8 dr e with h | h
      · exact hne h
      · have := (hB7.own.lt dr rfl).2; omega
    have ho8 : ∀ j : Nat, j < i + 1 → (out ++ [nx]).getD j 0 = if bs.getD j false && evB dep j && !leafB l j then chB l vs j else -1 := fun j hj => by
      by_cases e : j = i
      · subst e; rw [app_last hol.symm, hnx]
      · rw [app_getD (by omega)]; exact ho j (by omega)
    clear hO7 hB7
    (repeat (first | with_reducible refine W.seq ?_ | with_reducible refine Ops.nil ?_ | with_reducible refine W.region ?_ | refine z_p (kk := ?_) | with_reducible refine W.block ?_))
    refine W.loop (fun m ρ w9 => ∃ (j : Nat) (cs : List Bool), m = (kid l i).length - j ∧ j ≤ (kid l i).length ∧ ρ = [(0, .slice At l.length ct), (3, .slice Av vs.length cv), (4, .slice Ae es.length ce), (5, .slice (some ⟨dr, 0, none⟩) l.length l.length), (6, lv'), (7, .int .i64 i), (8, .int .i64 nx), (9, .int .i64 j)] ∧ OI 3 (Value.int .i64) w2 w9 lv' (out ++ [nx]) ∧ OI 4 Value.bool w2 w9 (.slice (some ⟨dr, 0, none⟩) l.length l.length) cs ∧ RP l dep (chB l vs) i j cs ∧ ∀ q : Nat, q ≤ i → cs.getD q false = bs.getD q false)
      ⟨_, _, ⟨0, bs, rfl, Nat.zero_le _, rfl, hO8, hB8, hP, fun q _ => rfl⟩, (by repeat (first | exact trivial | refine And.intro rfl ?_))⟩ ?_
    clear hO8 hB8
    rintro m ρ w9 ⟨j, cs, rfl, hj, rfl, hO9, hB9, hP9, hsame⟩
    have hb9 := hO9.bel
    have hcl := hP9.len
    (repeat (first | with_reducible refine W.seq ?_ | with_reducible refine Ops.nil ?_ | with_reducible refine W.region ?_ | refine z_p (kk := ?_) | refine z_l (kk := ?_) | refine z_k (kk := fun _ _ _ _ _ => ?_)))
    (first | refine W.condD rfl (fun hc => ?_) (fun hc => ?_) | refine W.condE rfl (fun hc => ?_) (fun hc => ?_) | refine W.condN rfl (fun hc => ?_) (fun hc => ?_) | refine W.cond rfl (fun hc => ?_) (fun hc => ?_))
    · have hjl : j < (kid l i).length := by omega
      have hkin := hT.kin i j hil hjl
      have hkn : (i : Int) < (kid l i).getD j 0 := hkin.1
      have hci := hsame i (Nat.le_refl _)
      have hlf : leafB l i = false := by rw [hlfk]; exact decide_eq_false (by omega)
      have hst : ∀ x, x = (cs.getD i false && (!evB dep i || decide (k_ l i j = chB l vs i))) → RP l dep (chB l vs) i (j + 1) (cs.set ((kid l i).getD j 0).toNat x) ∧ ∀ q : Nat, q ≤ i → (cs.set ((kid l i).getD j 0).toNat x).getD q false = bs.getD q false := fun x hx =>
        ⟨hP9.next hT hil hjl hx, fun q hq => by rw [bgetD_set_ne (by omega)]; exact hsame q hq⟩
      simp only [k_] at hkin hst
      (repeat (first | with_reducible refine W.seq ?_ | with_reducible refine Ops.nil ?_ | with_reducible refine W.region ?_ | refine z_p (kk := ?_) | with_reducible refine W.skip ?_ | with_reducible refine W.block ?_ | refine z_I (kk := fun _ => ?_) | refine z_J (kk := fun _ => ?_) | refine z_k (kk := fun _ _ _ _ _ => ?_)))
      have hfin : ∀ (b : Bool) (w' : World), b = (cs.getD i false && (!evB dep i || decide ((kid l i).getD j 0 = chB l vs i))) → OI 4 Value.bool w2 w' (.slice (some ⟨dr, 0, none⟩) l.length l.length) (cs.set ((kid l i).getD j 0).toNat b) → Kp (fun k => (Value.slice (some ⟨dr, 0, none⟩) l.length l.length).ownBlock = some k) w9 w' →
          OI 3 (Value.int .i64) w2 w' lv' (out ++ [nx]) := fun b w' _ hB' k' => hO9.kp k' (fun q hq => ⟨hB9.ge q hq, fun e => by simp [Value.ownBlock] at hq; exact hne8 (by rw [e, hq])⟩)
      cases hbi : cs.getD i false with
      | false =>
        (repeat (first | refine z_p (kk := ?_) | refine z_n (kk := ?_) | refine z_u (kk := ?_)))
        refine Ops.wrOi (u := false) (enc := Value.bool) rfl rfl rfl rfl rfl rfl rfl rfl rfl rfl rfl rfl (by simp) rfl hB9 (by omega) (by omega) (fun wa _ hBa ka _ => ?_)
        have hOa := hfin false wa (by rw [hbi]; rfl) hBa ka
        obtain ⟨hs1, hs2⟩ := hst false (by rw [hbi]; rfl)
        (repeat (first | with_reducible refine Ops.nil ?_ | with_reducible refine W.region ?_ | refine z_p (kk := ?_) | refine z_a (kk := ?_) | with_reducible refine W.endb ?_))
        exact W.endl ⟨_, _, ⟨⟨j + 1, _, rfl, by omega, rfl, hOa, hBa, hs1, hs2⟩, by omega⟩, (by repeat (first | exact trivial | refine And.intro rfl ?_))⟩
      | true =>
        cases hei : evB dep i with
        | false =>
          have hevi2 : es.getD i false = false := by rw [hevi, hei]
          (repeat (first | refine z_p (kk := ?_) | refine z_y (kk := ?_) | refine z_n (kk := ?_) | refine z_J (kk := fun _ => ?_) | refine z_g (kk := ?_)))
          refine Ops.wrOi (u := true) (enc := Value.bool) rfl rfl rfl rfl rfl rfl rfl rfl rfl rfl rfl rfl (by simp) rfl hB9 (by omega) (by omega) (fun wa _ hBa ka _ => ?_)
          have hOa := hfin true wa (by rw [hbi, hei]; rfl) hBa ka
          obtain ⟨hs1, hs2⟩ := hst true (by rw [hbi, hei]; rfl)
          (repeat (first | with_reducible refine Ops.nil ?_ | with_reducible refine W.region ?_ | refine z_p (kk := ?_) | refine z_a (kk := ?_) | with_reducible refine W.endb ?_))
          exact W.endl ⟨_, _, ⟨⟨j + 1, _, rfl, by omega, rfl, hOa, hBa, hs1, hs2⟩, by omega⟩, (by repeat (first | exact trivial | refine And.intro rfl ?_))⟩
        | true =>
          have hevi2 : es.getD i false = true := by rw [hevi, hei]
          have hnx2 : nx = chB l vs i := by rw [← hnx, ← hci, hbi, hei, hlf]; rfl
          (repeat (first | refine z_p (kk := ?_) | refine z_y (kk := ?_) | refine z_J (kk := fun _ => ?_) | refine z_h (kk := ?_)))
          rw [hnx2]
          refine Ops.wrOi (u := ((kid l i).getD j 0 == chB l vs i)) (enc := Value.bool) rfl rfl rfl rfl rfl rfl rfl rfl rfl rfl rfl rfl (by simp) rfl hB9 (by omega) (by omega) (fun wa _ hBa ka _ => ?_)
          have hbe : ((kid l i).getD j 0 == chB l vs i) = (cs.getD i false && (!evB dep i || decide ((kid l i).getD j 0 = chB l vs i))) := by rw [hbi, hei]; simp [Bool.beq_eq_decide_eq]
          have hOa := hfin _ wa hbe hBa ka
          obtain ⟨hs1, hs2⟩ := hst _ hbe
          rw [← hnx2]
          (repeat (first | with_reducible refine Ops.nil ?_ | with_reducible refine W.region ?_ | refine z_p (kk := ?_) | refine z_a (kk := ?_) | with_reducible refine W.endb ?_))
          exact W.endl ⟨_, _, ⟨⟨j + 1, _, rfl, by omega, rfl, hOa, hBa, hs1, hs2⟩, by omega⟩, (by repeat (first | exact trivial | refine And.intro rfl ?_))⟩
    · have hjl : j = (kid l i).length := by omega
      subst hjl
      have ho9 : ∀ j : Nat, j < i + 1 → (out ++ [nx]).getD j 0 = if cs.getD j false && evB dep j && !leafB l j then chB l vs j else -1 := fun j hj => by rw [hsame j (by omega)]; exact ho8 j hj
      (repeat (first | with_reducible refine Ops.nil ?_ | with_reducible refine W.region ?_ | refine z_p (kk := ?_) | refine z_a (kk := ?_) | with_reducible refine W.endb ?_ | refine W.exit rfl ?_))
      exact W.endl ⟨_, _, ⟨⟨i + 1, _, _, _, rfl, by omega, rfl, hO9, hB9, hne8, hP9.row, by simp [hol], ho9⟩, by omega⟩, (by repeat (first | exact trivial | refine And.intro rfl ?_))⟩
  · have hil : i = l.length := by omega
    subst hil
    (repeat (first | with_reducible refine W.seq ?_ | with_reducible refine Ops.nil ?_ | with_reducible refine W.region ?_ | refine z_p (kk := ?_) | refine W.exit rfl ?_))
    exact W.fret rfl ⟨vs, _, out, hvs, hP.plan hT hol ho, hO.up hb2⟩
end Go.Proofs.Ytdiljpnfochndaa
namespace Go.Proofs.Ytdiljpnfochndaa
open Go Go.RowKit Go.Proofs.Ytdiljpnfochndaa.VW
open Go.Proofs.Ytdiljpnfochndaa.HP (Nd kid wor leafB rd evB gameOf gameOf_TF TF TK ValP k_ PI PlanS Dn far kid_mem_at)
attribute [local irreducible] W Ops OrdA VW.Ord OrdX Wi OpsI
theorem RP.ex {l : List Nd} {dep : List Int} (hT : TF l dep) (ch : Int → Int) : ∃ bs, RP l dep ch l.length 0 bs := by
  have hn := hT.n1
  have h1 : ∀ i, i ≤ l.length → ∃ bs, RP l dep ch i 0 bs := by
    intro i
    induction i with
    | zero => exact fun _ => ⟨(List.replicate l.length false).set 0 true, by simp, bgetD_set_eq (by simp; omega), fun a b hd => by unfold Dn at hd; omega⟩
    | succ i ih =>
      intro hi
      obtain ⟨bs, h⟩ := ih (by omega)
      have h2 : ∀ j, j ≤ (kid l i).length → ∃ bs, RP l dep ch i j bs := by
        intro j
        induction j with
        | zero => exact fun _ => ⟨bs, h⟩
        | succ j ihj =>
          intro hj
          obtain ⟨bs, h⟩ := ihj (by omega)
          exact ⟨_, h.next hT (by omega) (by omega) rfl⟩
      obtain ⟨bs, h⟩ := h2 _ (Nat.le_refl _)
      exact ⟨bs, h.row⟩
  exact h1 _ (Nat.le_refl _)
theorem RP.same {l : List Nd} {dep : List Int} {ch : Int → Int} {i j : Nat} {bs bs' : List Bool} (hT : TF l dep) (h : RP l dep ch i j bs) (h' : RP l dep ch l.length 0 bs') : ∀ c : Nat, c ≤ i → c < l.length → bs.getD c false = bs'.getD c false := by
  intro c
  induction c using Nat.strongRecOn with
  | _ c ih =>
    intro hc hn
    by_cases e : c = 0
    · subst e; rw [h.r0, h'.r0]
    · obtain ⟨a, b, ha, hb, hk⟩ := hT.cov c (by omega) hn
      have hl := hT.kin a b ha hb
      have h1 := h.step a b (.inl (by omega)) hb
      have h2 := h'.step a b (.inl ha) hb
      rw [hk] at h1 h2
      simp only [Int.toNat_natCast] at h1 h2
      rw [h1, h2, ih a (by omega) (by omega) ha]
theorem st_uniq {l : List Nd} {dep : List Int} (hT : TF l dep) {f g : Int → Bool} (h0 : f 0 = g 0) (hs : ∀ a b : Nat, a < l.length → b < (kid l a).length → f a = g a → f (k_ l a b) = g (k_ l a b)) : ∀ c : Nat, c < l.length → f c = g c := by
  intro c
  induction c using Nat.strongRecOn with
  | _ c ih =>
    intro hn
    by_cases e : c = 0
    · subst e; exact h0
    · obtain ⟨a, b, ha, hb, hk⟩ := hT.cov c (by omega) hn
      have hl := hT.kin a b ha hb
      rw [← hk]
      exact hs a b ha hb (ih a (by omega) ha)
def okN (l : List Nd) (dep xs : List Int) (bs : List Bool) (i : Nat) : Bool := if bs.getD i false && evB dep i && !leafB l i then decide (rd xs i ∈ kid l i) else decide (rd xs i = -1)
def OkP (l : List Nd) (dep xs : List Int) (bs : List Bool) : Prop := ∀ i : Nat, i < l.length → okN l dep xs bs i = true
theorem inner_of_kid {l : List Nd} {a b : Nat} (hb : b < (kid l a).length) : leafB l a = false := by unfold leafB; cases hk : kid l a with | nil => rw [hk] at hb; simp at hb | cons _ _ => simp
theorem RP.fB {l : List Nd} {dep : List Int} {ch : Int → Int} {bs : List Bool} (h : RP l dep ch l.length 0 bs) {a b : Nat} (ha : a < l.length) (hb : b < (kid l a).length) (hT : TF l dep) : bs.getD (k_ l a b).toNat false = (bs.getD a false && (!evB dep a || decide (k_ l a b = ch a))) := h.step a b (.inl ha) hb
theorem plan_f {l : List Nd} {dep xs out : List Int} {bs : List Bool} {f : Int → Bool} (hT : TF l dep) (hbs : RP l dep (rd xs) l.length 0 bs) (hP : PlanS l dep (chk l xs) f out)
    (hr : ∀ i : Nat, i < l.length → f i = bs.getD i false → f i = true → evB dep i = true → leafB l i = false → rd xs i ∈ kid l i) : ∀ i : Nat, i < l.length → f i = bs.getD i false := by
  have := st_uniq hT (f := f) (g := fun c => bs.getD c.toNat false) (by rw [hP.r0]; exact hbs.r0.symm) (fun a b ha hb e => by
    have e' : f a = bs.getD a false := e
    show f (k_ l a b) = bs.getD (k_ l a b).toNat false
    rw [hP.step a b ha hb, hbs.fB ha hb hT, ← e']
    cases hf : f a with
    | false => rfl
    | true =>
      cases he : evB dep a with
      | false => rfl
      | true =>
        have hm := hr a ha e' hf he (inner_of_kid hb)
        unfold chk
        rw [if_pos hm])
  exact fun i hi => this i hi
theorem ok_of_plan {l : List Nd} {dep xs : List Int} {bs : List Bool} {f : Int → Bool} (hT : TF l dep) (hbs : RP l dep (rd xs) l.length 0 bs) (hP : PlanS l dep (chk l xs) f xs)
    (hr : ∀ i : Nat, i < l.length → f i = true → evB dep i = true → leafB l i = false → rd xs i ∈ kid l i) : OkP l dep xs bs := by
  have hf := plan_f hT hbs hP (fun i hi _ => hr i hi)
  intro i hi
  have hd := hP.done i hi
  have hrx : rd xs i = xs.getD i 0 := rfl
  unfold okN
  rw [← hf i hi]
  split
  · rename_i h
    simp only [Bool.and_eq_true, Bool.not_eq_true'] at h
    exact decide_eq_true (hr i hi h.1.1 h.1.2 h.2)
  · rename_i h
    rw [if_neg h] at hd
    exact decide_eq_true (by rw [hrx, hd])
theorem plan_of_ok {l : List Nd} {dep xs out : List Int} {bs : List Bool} {f : Int → Bool} (hT : TF l dep) (hbs : RP l dep (rd xs) l.length 0 bs) (hP : PlanS l dep (chk l xs) f out) (hok : OkP l dep xs bs) (hxl : xs.length = l.length) :
    out = xs ∧ (∀ i : Nat, i < l.length → f i = bs.getD i false) ∧ ∀ i : Nat, i < l.length → f i = true → evB dep i = true → leafB l i = false → rd xs i ∈ kid l i := by
  have hr : ∀ i : Nat, i < l.length → f i = bs.getD i false → f i = true → evB dep i = true → leafB l i = false → rd xs i ∈ kid l i := fun i hi e h1 h2 h3 => by
    have := hok i hi
    unfold okN at this
    rw [← e, h1, h2, h3, if_pos (by rfl)] at this
    exact of_decide_eq_true this
  have hf := plan_f hT hbs hP hr
  refine ⟨?_, hf, fun i hi => hr i hi (hf i hi)⟩
  apply List.ext_getElem (by rw [hP.len, hxl])
  intro j h1 h2
  have hj : j < l.length := by omega
  have hd := hP.done j hj
  have ho := hok j hj
  have hrx : rd xs j = xs.getD j 0 := rfl
  unfold okN at ho
  rw [← hf j hj] at ho
  have e1 : out.getD j 0 = out[j] := by simp [List.getD_eq_getElem?_getD, h1]
  have e2 : xs.getD j 0 = xs[j] := by simp [List.getD_eq_getElem?_getD, h2]
  rw [← e1, ← e2, hd]
  split
  · rename_i h
    rw [if_pos h] at ho
    have hm := of_decide_eq_true ho
    unfold chk
    rw [if_pos hm]
    rfl
  · rename_i h
    rw [if_neg h] at ho
    have hm := of_decide_eq_true ho
    rw [← hrx, hm]
def lst (l : List Nd) (f : Nat → Bool) (z : Int) : Nat → Int
  | 0 => z
  | i + 1 => if f i && leafB l i then min (lst l f z i) (wor l i) else lst l f z i
theorem lst_congr {l : List Nd} {f g : Nat → Bool} {z : Int} : ∀ {i : Nat}, (∀ j : Nat, j < i → f j = g j) → lst l f z i = lst l g z i
  | 0, _ => rfl
  | i + 1, h => by simp only [lst]; rw [h i (by omega), lst_congr (fun j hj => h j (by omega))]
theorem lst_far {l : List Nd} {dep : List Int} (hT : TF l dep) {f : Nat → Bool} : ∀ i : Nat, i ≤ l.length → ((∃ j : Nat, j < i ∧ (f j && leafB l j) = true) → lst l f far i = lst l f 1000000 i) ∧ ((¬ ∃ j : Nat, j < i ∧ (f j && leafB l j) = true) → lst l f far i = far ∧ lst l f 1000000 i = 1000000)
  | 0, _ => ⟨fun ⟨j, h, _⟩ => by omega, fun _ => ⟨rfl, rfl⟩⟩
  | i + 1, hi => by
    obtain ⟨h1, h2⟩ := lst_far hT (f := f) i (by omega)
    obtain ⟨w1, w2, _⟩ := hT.wor i (by omega)
    simp only [lst]
    refine ⟨fun ⟨j, hj, hl⟩ => ?_, fun h => ?_⟩
    · by_cases he : ∃ j : Nat, j < i ∧ (f j && leafB l j) = true
      · rw [h1 he]
      · obtain ⟨e1, e2⟩ := h2 he
        have : j = i := by
          rcases Nat.lt_or_ge j i with h | h
          · exact absurd ⟨j, h, hl⟩ he
          · omega
        subst this
        rw [if_pos hl, if_pos hl, e1, e2]
        unfold far
        omega
    · have hn : ¬ (f i && leafB l i) = true := fun e => h ⟨i, by omega, e⟩
      rw [if_neg hn, if_neg hn]
      exact h2 fun ⟨j, hj, e⟩ => h ⟨j, by omega, e⟩
theorem reach_leaf {l : List Nd} {dep xs : List Int} {bs : List Bool} (hT : TF l dep) (hbs : RP l dep (rd xs) l.length 0 bs) (hok : OkP l dep xs bs) : ∃ j : Nat, j < l.length ∧ (bs.getD j false && leafB l j) = true := by
  have key : ∀ d i : Nat, l.length - i = d → i < l.length → bs.getD i false = true → ∃ j : Nat, j < l.length ∧ (bs.getD j false && leafB l j) = true := by
    intro d
    induction d using Nat.strongRecOn with
    | _ d ih =>
      intro i hd hi hb
      cases hl : leafB l i with
      | true => exact ⟨i, hi, by rw [hb, hl]; rfl⟩
      | false =>
        have hstep : ∀ b : Nat, b < (kid l i).length → (evB dep i = true → k_ l i b = rd xs i) → ∃ j : Nat, j < l.length ∧ (bs.getD j false && leafB l j) = true := fun b hbk he => by
          have hk := hT.kin i b hi hbk
          have hs := hbs.fB hi hbk hT
          rw [hb] at hs
          refine ih (l.length - (k_ l i b).toNat) (by omega) (k_ l i b).toNat rfl (by omega) ?_
          rw [hs]
          cases hev : evB dep i with
          | false => rfl
          | true => simp [he hev]
        cases hev : evB dep i with
        | true =>
          have := hok i hi
          unfold okN at this
          rw [hb, hev, hl, if_pos (by rfl)] at this
          obtain ⟨b, hbk, e⟩ := kid_mem_at (of_decide_eq_true this)
          exact hstep b hbk fun _ => e
        | false =>
          have : 0 < (kid l i).length := by unfold leafB at hl; cases hk : kid l i with | nil => rw [hk] at hl; simp at hl | cons _ _ => simp
          exact hstep 0 this fun h => by rw [hev] at h; cases h
  exact key _ 0 rfl hT.n1 hbs.r0
end Go.Proofs.Ytdiljpnfochndaa
namespace Go.Proofs.Ytdiljpnfochndaa
open Go Go.RowKit Go.Proofs.Ytdiljpnfochndaa.VW
open Go.Proofs.Ytdiljpnfochndaa.HP (Nd kid wor leafB rd evB gameOf gameOf_TF TF TK ValP k_)
attribute [local irreducible] W Ops OrdA VW.Ord OrdX Wi OpsI
theorem kp_putObj {w : World} {r : Nat} (o : Obj) : Kp (fun k => k = r) w (w.putObj r o) := (Kp.of_grown (grownBy_putObj' w r o)).mono fun k _ e => by cases e; rfl
theorem at_kp {S : Nat → Prop} {w w' : World} {b : Nat} {o : Obj} (h : w.heap[b]? = some o) (k : Kp S w w') (hs : ¬ S b) : w'.heap[b]? = some o := (k.blk b (Array.getElem?_eq_some_iff.1 h).1 hs).trans h
/-- for i := range g.leaves(): 'I i' before node i. -/
theorem JW.leaves {wE : World} {g b97 id p nT : Nat} {gx : Operand} {l : List Nd} {dep : List Int} {assign body c2 : Code} {Φ : Post} {ds : List Deferred} {ρ : E} {I : Nat → World → Prop} (hT : TF l dep)
    (hg : ev ρ gx = some (.func (.func 97) #[] #[.pointer (some ⟨b97, 0, none⟩)])) (hi2 : inB nT c2 = true) (hp : Nat.blt p nT = true)
    (hI : ∀ i W, I i W → Blk W b97 #[.pointer (some ⟨g, 0, none⟩)] 69 ∧ Game W g l dep)
    (hIk : ∀ i W W', I i W → Kp (fun k => wE.heap.size ≤ k) W W' → I i W')
    (hno : ∀ i W, I i W → i < l.length → leafB l i = false → I (i + 1) W) (h0 : I 0 wE)
    (hround : ∀ L i W, I i W → i < l.length → leafB l i = true → wE.heap.size ≤ L → Wi (some L) Try.prog nT [] assign (fun e ρ1 w1 => e = .normal ∧ w1 = W ∧ ∀ W', I i W' → Wi (some L) Try.prog nT [] body (fun e ρ2 w2 => e = .normal ∧ I (i + 1) w2 ∧ Kp (fun k => k < wE.heap.size) W' w2) ρ1 W') ((p, .int .i64 i) :: ρ) W)
    (hdone : ∀ D W3, I l.length W3 → W3.heap[D]? = some (.deferred (some [])) → wE.heap.size ≤ D → W Try.prog nT ({ target := .collected D, args := #[] } :: ds) [.code c2] (fun e ρ w => e = .ret ∧ w.heap[D]? = some (.deferred (some [])) ∧ Φ .ret ρ (w.putObj D (.deferred none))) ρ W3) :
    JW Try.prog nT ds Φ c2 (.block id (.rangeFunc gx #[p] assign body)) ρ wE := by
  refine JW.range (lb := [.pointer (some ⟨b97, 0, none⟩)]) (gf := 97) hg (Fns.call (P := Try.prog) (by exact rfl)) hi2 (fun fn tmps hrep D W1 hD hW1 => ?_)
  subst hD hW1
  have ka := (mk_alloc wE (.deferred (some []))).kp
  have kb := (mk_alloc (wE.alloc (.deferred (some []))) (.loop (loopRec fn tmps #[p] assign body wE.heap.size))).kp
  have h1 := hIk _ _ _ h0 ((ka.trans kb).mono fun k _ e => by rcases e with e | e <;> exact e.elim)
  have hsz : (wE.alloc (.deferred (some []))).heap.size = wE.heap.size + 1 := (mk_alloc wE _).size
  have hD1 : ((wE.alloc (.deferred (some []))).alloc (.loop (loopRec fn tmps #[p] assign body wE.heap.size))).heap[wE.heap.size]? = some (.deferred (some [])) := at_kp (mk_alloc wE (.deferred (some []))).at_ kb (fun e => e)
  have hL1 : ((wE.alloc (.deferred (some []))).alloc (.loop (loopRec fn tmps #[p] assign body wE.heap.size))).heap[wE.heap.size + 1]? = some (.loop (loopRec fn tmps #[p] assign body wE.heap.size)) := by
    have := (mk_alloc (wE.alloc (.deferred (some []))) (.loop (loopRec fn tmps #[p] assign body wE.heap.size))).at_
    rw [hsz] at this
    exact this
  refine CallsIn.mono (leaves1_in (lp := wE.heap.size + 1) (g := g) (b1 := b97) hT (J := fun i W => I i W ∧ W.heap[wE.heap.size]? = some (.deferred (some [])) ∧ W.heap[wE.heap.size + 1]? = some (.loop (loopRec fn tmps #[p] assign body wE.heap.size)))
    (fun i W h => hI i W h.1) (fun i W h hi hl => ⟨hno i W h.1 hi hl, h.2⟩) (fun i W h hi hl => ?_) ⟨h1, hD1, hL1⟩) ?_
  · obtain ⟨hi1, hd, hl1⟩ := h
    refine round_in hl1 hrep hp ((hround _ i W hi1 hi hl (by omega)).mono ?_)
    rintro e ρ1 w1 ⟨rfl, rfl, hb⟩
    refine ⟨rfl, _, hl1, rfl, ?_⟩
    have hk := kp_putObj (w := w1) (r := wE.heap.size + 1) (.loop { (loopRec fn tmps #[p] assign body wE.heap.size) with state := .busy })
    have hlt := (Array.getElem?_eq_some_iff.1 hl1).1
    refine (hb _ (hIk _ _ _ hi1 (hk.mono fun k _ e => by omega))).mono ?_
    rintro e ρ2 w2 ⟨rfl, hi2', hk2⟩
    have hl2 : w2.heap[wE.heap.size + 1]? = some (.loop { (loopRec fn tmps #[p] assign body wE.heap.size) with state := .busy }) := at_kp (World.putObj_heap_same hlt) hk2 (fun e => by omega)
    have hd2 : w2.heap[wE.heap.size]? = some (.deferred (some [])) := at_kp (at_kp hd hk (fun e => by omega)) hk2 (fun e => by omega)
    have hlt2 := (Array.getElem?_eq_some_iff.1 hl2).1
    have hk3 := kp_putObj (w := w2) (r := wE.heap.size + 1) (.loop (loopRec fn tmps #[p] assign body wE.heap.size))
    exact ⟨rfl, _, hl2, rfl, hIk _ _ _ hi2' (hk3.mono fun k _ e => by omega), at_kp hd2 hk3 (fun e => by omega), World.putObj_heap_same hlt2⟩
  · rintro e W2 ⟨v, rfl, hi2', hd, hl2⟩
    refine ⟨v, rfl, _, hl2, rfl, rfl, hd, ?_⟩
    rintro W3 rfl
    have hk3 := kp_putObj (w := W2) (r := wE.heap.size + 1) (.loop { (loopRec fn tmps #[p] assign body wE.heap.size) with state := .exhausted })
    exact hdone _ _ (hIk _ _ _ hi2' (hk3.mono fun k _ e => by omega)) (at_kp hd hk3 (fun e => by omega)) (Nat.le_refl _)
end Go.Proofs.Ytdiljpnfochndaa
namespace Go.Proofs.Ytdiljpnfochndaa
open Go Go.RowKit Go.Proofs.Ytdiljpnfochndaa.VW
open Go.Proofs.Ytdiljpnfochndaa.HP (Nd kid wor leafB rd evB gameOf gameOf_TF TF TK ValP k_ PI PlanS Dn far kid_mem_at)
attribute [local irreducible] W Ops OrdA VW.Ord OrdX Wi OpsI
theorem asked_all {l : List Nd} {dep : List Int} {f : Int → Bool} {p : Int → Bool} {n : Nat} : (asked l dep f n).all p = true ↔ ∀ i : Nat, i < n → f i = true → evB dep i = true → leafB l i = false → p i = true := by
  unfold asked
  simp only [List.all_eq_true, List.mem_map, List.mem_filter, List.mem_range, Bool.and_eq_true, Bool.not_eq_true']
  constructor
  · intro h i hi h1 h2 h3
    exact h i ⟨i, ⟨hi, ⟨h1, h2⟩, h3⟩, rfl⟩
  · rintro h x ⟨i, ⟨hi, ⟨h1, h2⟩, h3⟩, rfl⟩
    exact h i hi h1 h2 h3
theorem chk_mem {l : List Nd} {xs : List Int} {i : Int} (h : leafB l i = false) : chk l xs i ∈ kid l i := by
  unfold chk
  split
  · assumption
  · unfold leafB at h
    cases hk : kid l i with
    | nil => rw [hk] at h; simp at h
    | cons a r => simp
theorem PI.same {l : List Nd} {dep : List Int} {ch : Int → Int} {i : Nat} {f : Int → Bool} {out : List Int} {bs' : List Bool} (hT : TF l dep) (h : PI l dep ch i f out) (h' : RP l dep ch l.length 0 bs') : ∀ c : Nat, c ≤ i → c < l.length → f c = bs'.getD c false := by
  intro c
  induction c using Nat.strongRecOn with
  | _ c ih =>
    intro hc hn
    by_cases e : c = 0
    · subst e; rw [h'.r0]; exact h.r0
    · obtain ⟨a, b, ha, hb, hk⟩ := hT.cov c (by omega) hn
      have hl := hT.kin a b ha hb
      have h1 := h.step a b (by omega) hb
      have h2 := h'.step a b (.inl ha) hb
      rw [hk] at h1 h2
      simp only [Int.toNat_natCast] at h2
      rw [h1, h2, ih a (by omega) (by omega) ha]
theorem leavesF_c (w : World) (p : Option Addr) : Calls Try.prog 84 #[.pointer p] w (Ret fun r w' => ∃ b, r = .func (.func 97) #[] #[.pointer (some ⟨b, 0, none⟩)] ∧ Blk w' b #[.pointer p] 69 ∧ Below w.heap.size w w' ∧ w.heap.size ≤ b) := by
  refine calls_W (vs := [_]) Try.func84 rfl (by kernel_rfl) rfl ?_
  (repeat (first | with_reducible refine W.seq ?_ | with_reducible refine W.region ?_))
  refine Ops.box rfl rfl rfl rfl (fun w1 b hM => ?_)
  have hb1 : Below w.heap.size w w1 := hM.kp.below (Nat.le_refl _) (fun _ _ e => e)
  (repeat (first | with_reducible refine W.seq ?_ | with_reducible refine Ops.nil ?_ | with_reducible refine W.region ?_ | refine z_p (kk := ?_)))
  exact W.fret rfl ⟨b, rfl, hM.at_, hb1, by have := hM.r_eq; omega⟩
def CheckR (l : List Nd) (xs : List Int) (bsF : List Bool) (r : Value) : Prop := match gameOf l with
  | none => r = .tuple #[.int .i64 0, .int .i64 2]
  | some dep => (xs.length = l.length ∧ OkP l dep xs bsF ∧ r = .tuple #[.int .i64 (lst l (fun i => bsF.getD i false) far l.length), .int .i64 0]) ∨ (¬ (xs.length = l.length ∧ OkP l dep xs bsF) ∧ r = .tuple #[.int .i64 0, .int .i64 10])
set_option maxHeartbeats 4000000 in
theorem check_c {w : World} {v sv : Value} {l : List Nd} {xs : List Int} (hT : TreeM w v l) (hl : l.length ≤ 9223372036854775807) (hS : SlI w sv xs) (hxn : xs.length ≤ 1000) {bsF : List Bool} (hbs : ∀ dep, gameOf l = some dep → RP l dep (rd xs) l.length 0 bsF) :
    Calls Try.prog 48 #[v, sv] w (Ret fun r w' => Below w.heap.size w w' ∧ CheckR l xs bsF r) := by
  obtain ⟨At, ct, rfl⟩ := hT.sl
  obtain ⟨Ax, cx, rfl⟩ := Sl.sl hS
  refine calls_W (vs := [_, _]) Try.func48 rfl (by kernel_rfl) rfl ?_
  (repeat (first | with_reducible refine W.seq ?_ | with_reducible refine W.region ?_))
  refine Ops.box rfl rfl rfl rfl (fun w1 b1 hM1 => ?_)
  refine Ops.box rfl rfl rfl rfl (fun w2 b2 hM2 => ?_)
  have k2 := hM1.kp.trans hM2.kp
  have hb2 : Below w.heap.size w w2 := Below.put (Below.refl _ _) k2 (fun i hi => by rcases hi with hi | hi <;> exact hi.elim)
  have hB1 : Blk w2 b1 #[.slice At l.length ct] 22 := Blk.kp hM1.at_ hM2.kp (fun e => e)
  have hB2 : Blk w2 b2 #[.slice Ax xs.length cx] 24 := hM2.at_
  have hT2 := hT.below hb2
  have hS2 := Sl.below hS hb2
  clear hT hS
  (repeat (first | with_reducible refine W.seq ?_ | with_reducible refine Ops.nil ?_ | with_reducible refine W.region ?_ | refine z_p (kk := ?_) | refine z_d (kk := ?_)))
  refine Ops.call rfl rfl rfl rfl rfl (newGame_c hT2 hl) (fun r w3 hR => ?_)
  obtain ⟨hb3, hR⟩ := hR
  have hb03 := Below.via hb2 hb3
  unfold CheckR
  cases hg : gameOf l with
  | none =>
    rw [hg] at hR
    obtain ⟨p, hp1, rfl⟩ := hR
    (repeat (first | refine z_p (kk := ?_)))
    refine Ops.alloc rfl rfl rfl rfl (fun w4 g6 hM3 => ?_)
    refine Ops.st rfl rfl rfl rfl rfl rfl hp1 hM3.at_ (by decide) (fun w5 hu => ?_)
    have k4 := hM3.kp.trans hu.kp
    have hb05 : Below w.heap.size w w5 := Below.put hb03 k4 (fun i hi => by rcases hi with hi | hi; exact hi.elim; have := hM3.r_eq; have := hb03.size; omega)
    (repeat (first | with_reducible refine W.seq ?_ | with_reducible refine Ops.nil ?_ | with_reducible refine W.region ?_ | refine z_p (kk := ?_)))
    refine W.condT rfl (by first | rfl | assumption | (simp only [bnf] <;> omega) | (simp only [*, bnf]; done) | fail) ?_
    (repeat (first | with_reducible refine W.seq ?_ | with_reducible refine Ops.nil ?_ | with_reducible refine W.region ?_ | refine z_p (kk := ?_)))
    exact W.fret rfl ⟨hb05, rfl⟩
  | some dep =>
    rw [hg] at hR
    obtain ⟨g, rfl, hgs, hG⟩ := hR
    have hTF := gameOf_TF hg
    have hn1 := hTF.n1
    have hn60 := hTF.n60
    have hdl := hTF.len
    (repeat (first | refine z_p (kk := ?_)))
    refine Ops.alloc rfl rfl rfl rfl (fun w4 b6 hM3 => ?_)
    refine Ops.st rfl rfl rfl rfl rfl rfl rfl hM3.at_ (by decide) (fun w5 hu => ?_)
    have k4 := hM3.kp.trans hu.kp
    have hr3 := hM3.r_eq
    have hb35 : Below w3.heap.size w3 w5 := Below.put (Below.refl _ _) k4 (fun i hi => by rcases hi with hi | hi; exact hi.elim; omega)
    have hb25 := Below.via hb3 hb35
    have hb05 := Below.via hb2 hb25
    have hG5 := hG.below hb35
    have hB6 : Blk w5 b6 #[.pointer (some ⟨g, 0, none⟩)] 69 := hu.blk
    have hB15 := hB1.kp (Kp.of_below (S := fun _ => False) hb25) (fun e => e)
    have hB25 := hB2.kp (Kp.of_below (S := fun _ => False) hb25) (fun e => e)
    have hT5 := hT2.below hb25
    have hS5 := Sl.below hS2 hb25
    clear hG hB1 hB2 hT2 hS2 hu hM3 hM1 hM2 k2 k4
    (repeat (first | with_reducible refine W.seq ?_ | with_reducible refine Ops.nil ?_ | with_reducible refine W.region ?_ | refine z_p (kk := ?_)))
    refine W.condF rfl (by first | rfl | assumption | (simp only [bnf] <;> omega) | (simp only [*, bnf]; done) | fail) ?_
    (repeat (first | with_reducible refine W.seq ?_ | with_reducible refine Ops.nil ?_ | with_reducible refine W.region ?_ | refine z_p (kk := ?_) | with_reducible refine W.skip ?_ | refine z_l (kk := ?_) | refine z_d (kk := ?_)))
    by_cases hxl : xs.length = l.length
    · refine W.condF rfl (by first | rfl | assumption | (simp only [bnf] <;> omega) | (simp only [*, bnf]; done) | fail) ?_
      (repeat (first | with_reducible refine W.seq ?_ | with_reducible refine W.region ?_ | with_reducible refine W.skip ?_))
      refine Ops.alloc rfl rfl rfl rfl (fun w6 b8 hM8 => ?_)
      refine Ops.st rfl rfl rfl rfl rfl rfl rfl hM8.at_ (by decide) (fun w7 hu8 => ?_)
      have k8 := hM8.kp.trans hu8.kp
      have hr8 := hM8.r_eq
      have hsz7 : b8 < w7.heap.size := by have := hM8.size; have := hu8.kp.size; omega
      have hb57 : Below w5.heap.size w5 w7 := Below.put (Below.refl _ _) k8 (fun i hi => by rcases hi with hi | hi; exact hi.elim; omega)
      have hB8 : Blk w7 b8 #[.bool true] 4 := hu8.blk
      (repeat (first | with_reducible refine W.seq ?_ | with_reducible refine Ops.nil ?_ | with_reducible refine W.region ?_ | refine z_p (kk := ?_) | refine z_D (kk := ?_)))
      have hbsF := hbs dep hg
      refine Ops.call rfl rfl rfl rfl rfl (plan_c (wB := w5) (first := []) (cap := [.pointer (some ⟨b1, 0, none⟩), .pointer (some ⟨b2, 0, none⟩), .pointer (some ⟨b8, 0, none⟩)]) (fi := 81) (ch := chk l xs) (S := fun k => k = b8) (J := fun t w' => Blk w' b8 #[.bool (t.all fun i => decide (rd xs i ∈ kid l i))] 4) hG5 hb57 hTF rfl (fun i hi hlf => chk_mem hlf)
        (fun t i w' hi hlf hev hb' hJ => ?_) (fun i h => ⟨by omega, by omega⟩) (fun t wa wb T hJ hk hT => hJ.kp hk (fun e => by have := hT _ e; omega)) hB8) (fun r w8 hR => ?_)
      · refine (check1_c hTF hB15 hT5 hB25 hS5 hxl hb' (by omega) hJ i hi hlf).mono ?_
        rintro e w'' ⟨v, he, hv, hb'', hk, hB⟩
        exact ⟨v, he, hv, hb'', by rw [List.all_append]; simpa using hB, hk⟩
      obtain ⟨f, out, hP, hO, hB8'⟩ := hR
      have hb58 := hO.bel
      have hb08 := Below.via hb05 hb58
      have ho8 : SlI w8 r out := hO.sl
      have hol := hP.len
      obtain ⟨Ao, co, rfl⟩ := Sl.sl ho8
      generalize hq : (asked l dep f l.length).all (fun i => decide (rd xs i ∈ kid l i)) = q at *
      (repeat (first | with_reducible refine W.seq ?_ | with_reducible refine Ops.nil ?_ | with_reducible refine W.region ?_ | refine z_p (kk := ?_) | refine z_d (kk := ?_)))
      refine Ops.cut (fun ρ w' => ρ = [(2, .pointer (some ⟨b1, 0, none⟩)), (3, .pointer (some ⟨b2, 0, none⟩)), (6, .pointer (some ⟨b6, 0, none⟩)), (39, .bool (!(q && decide (out = xs))))] ∧ Below w8.heap.size w8 w') ?_ ?_
      · cases q with
        | false =>
          (repeat (first | with_reducible refine Ops.nil ?_ | refine z_p (kk := ?_) | refine z_n (kk := ?_)))
          exact W.endl ⟨_, ⟨rfl, Below.refl _ _⟩, (by repeat (first | exact trivial | refine And.intro rfl ?_))⟩
        | true =>
          (repeat (first | refine z_p (kk := ?_) | refine z_y (kk := ?_) | refine z_D (kk := ?_)))
          refine Ops.call rfl rfl rfl rfl rfl (equal_c ho8 (Sl.below hS5 hb58) (by omega) (by omega)) (fun r w9 hR => ?_)
          obtain ⟨rfl, hb9⟩ := hR
          (repeat (first | with_reducible refine Ops.nil ?_ | refine z_p (kk := ?_) | refine z_y (kk := ?_)))
          refine W.endl ⟨_, ⟨rfl, hb9⟩, ?_⟩
          rw [Bool.true_and]
          exact (by repeat (first | exact trivial | refine And.intro rfl ?_))
      rintro ρ w9 ⟨rfl, hb89⟩
      have hb59 := Below.via hb58 hb89
      have hb09 := Below.via hb05 hb59
      by_cases hgo : q = true ∧ out = xs
      · obtain ⟨rfl, rfl⟩ := hgo
        rw [decide_eq_true rfl]
        have hok : OkP l dep out bsF := ok_of_plan hTF hbsF hP (fun i hi h1 h2 h3 => of_decide_eq_true (asked_all.1 hq i hi h1 h2 h3))
        refine W.condF rfl rfl ?_
        (repeat (first | with_reducible refine W.seq ?_ | with_reducible refine W.region ?_ | with_reducible refine W.skip ?_))
        clear hO hB8' hB8 ho8 hP hq
        refine Ops.mkM rfl rfl rfl (fun wa mb hma ka hmb => ?_)
        refine Ops.ins rfl rfl rfl rfl rfl rfl rfl rfl hma (fun wb' hmb' kb hzb => ?_)
        have hm4 : MapB wb' mb (fun k => k == 0) := by simpa using hmb'
        have hb9b : Below w9.heap.size w9 wb' := Below.put (Below.put (Below.refl _ _) ka (fun _ e => e.elim)) kb (fun i hi => by omega)
        (repeat (first | refine z_p (kk := ?_)))
        refine Ops.alloc rfl rfl rfl rfl (fun wc b10 hMc => ?_)
        refine Ops.st rfl rfl rfl rfl rfl rfl rfl hMc.at_ (by decide) (fun wd hud => ?_)
        have kd := hMc.kp.trans hud.kp
        have hr10 := hMc.r_eq
        have hb9d : Below w9.heap.size w9 wd := Below.put hb9b kd (fun i hi => by rcases hi with hi | hi; exact hi.elim; have := hb9b.size; omega)
        have hmd := hm4.kp kd (fun hi => by rcases hi with hi | hi; exact hi.elim; have := hm4.lt; omega)
        have hB10 : Blk wd b10 #[.map (some mb)] 79 := hud.blk
        have hne10 : mb ≠ b10 := by have := hm4.lt; omega
        have hb5d := Below.via hb59 hb9d
        have hmb5 : w5.heap.size ≤ mb := by have := hb59.size; omega
        have hb105 : w5.heap.size ≤ b10 := by have := hb5d.size; have := hb59.size; have := hb9b.size; omega
        have hP0 := PI.start l dep (rd out)
        clear hmb' hm4 hma hMc hud
        (repeat (first | with_reducible refine W.seq ?_ | with_reducible refine Ops.nil ?_ | with_reducible refine W.region ?_ | refine z_p (kk := ?_) | with_reducible refine W.block ?_ | refine z_l (kk := ?_) | refine z_D (kk := ?_)))
        refine W.loop (fun m ρ w' => ∃ (i : Nat) (f : Int → Bool) (gh : List Int), m = l.length - i ∧ i ≤ l.length ∧ ρ = [(3, .pointer (some ⟨b2, 0, none⟩)), (6, .pointer (some ⟨b6, 0, none⟩)), (10, .pointer (some ⟨b10, 0, none⟩)), (42, .slice At l.length ct), (43, .int .i64 l.length), (44, .int .i64 i)] ∧ Below w5.heap.size w5 w' ∧ Blk w' b10 #[.map (some mb)] 79 ∧ MapB w' mb f ∧ PI l dep (rd out) i f gh)
          ⟨_, _, ⟨0, _, _, rfl, Nat.zero_le _, rfl, hb5d, hB10, hmd, hP0⟩, (by repeat (first | exact trivial | refine And.intro rfl ?_))⟩ ?_
        clear hB10 hmd hP0 hb5d hb9d
        rintro m ρ w10 ⟨i, f2, gh, rfl, hi, rfl, hb10, hB10, hM, hP2⟩
        (repeat (first | with_reducible refine W.seq ?_ | with_reducible refine Ops.nil ?_ | with_reducible refine W.region ?_ | refine z_p (kk := ?_)))
        (first | refine W.condD rfl (fun hc => ?_) (fun hc => ?_) | refine W.condE rfl (fun hc => ?_) (fun hc => ?_) | refine W.condN rfl (fun hc => ?_) (fun hc => ?_) | refine W.cond rfl (fun hc => ?_) (fun hc => ?_))
        · have hil : i < l.length := by omega
          (repeat (first | with_reducible refine W.seq ?_ | with_reducible refine W.region ?_ | refine z_p (kk := ?_) | with_reducible refine W.skip ?_ | with_reducible refine W.block ?_))
          refine Ops.rdNB rfl rfl rfl rfl rfl rfl (fun _ => rfl) rfl rfl rfl rfl rfl rfl rfl hT5 hb10 (by omega) (by omega) (fun Ak ck _ hks => ?_)
          refine Ops.alloc rfl rfl rfl rfl (fun w11 b12 hM6 => ?_)
          (repeat (first | refine z_p (kk := ?_)))
          refine Ops.st2 rfl rfl rfl rfl rfl rfl rfl rfl hM6.at_ (fun w12 hu7 => ?_)
          have k7 := hM6.kp.trans hu7.kp
          have e6 := hM6.r_eq
          have hB12 := hu7.blk
          have hb12 : Below w5.heap.size w5 w12 := Below.put hb10 k7 (fun j hj => by rcases hj with hj | hj; exact hj.elim; have := hb10.size; omega)
          have hM12 := hM.kp k7 (fun hj => by rcases hj with hj | hj; exact hj.elim; have := hM.lt; omega)
          have hB1012 := hB10.kp k7 (fun hj => by rcases hj with hj | hj; exact hj.elim; have := hB10.lt; omega)
          have hG12 := hG5.below hb12
          have hsame := PI.same hTF hP2 hbsF i (Nat.le_refl _) hil
          clear hM hB10
          (repeat (first | with_reducible refine W.seq ?_ | with_reducible refine Ops.nil ?_ | with_reducible refine W.region ?_ | refine z_p (kk := ?_) | with_reducible refine W.block ?_ | refine z_d (kk := ?_)))
          refine Ops.look rfl rfl rfl rfl rfl rfl rfl rfl hM12 ?_
          cases hfi : f2 i with
          | false =>
            (repeat (first | with_reducible refine Ops.nil ?_ | refine z_p (kk := ?_)))
            refine W.condT rfl (by first | rfl | assumption | (simp only [bnf] <;> omega) | (simp only [*, bnf]; done) | fail) ?_
            (repeat (first | with_reducible refine Ops.nil ?_ | with_reducible refine W.region ?_ | refine z_p (kk := ?_) | refine z_a (kk := ?_) | with_reducible refine W.skip ?_ | with_reducible refine W.endb ?_))
            exact W.endl ⟨_, _, ⟨⟨i + 1, f2, gh, rfl, by omega, rfl, hb12, hB1012, hM12, hP2.skip hTF hil (.inl hfi)⟩, by omega⟩, (by repeat (first | exact trivial | refine And.intro rfl ?_))⟩
          | true =>
            (repeat (first | with_reducible refine Ops.nil ?_ | refine z_p (kk := ?_)))
            refine W.condF rfl (by first | rfl | assumption | (simp only [bnf] <;> omega) | (simp only [*, bnf]; done) | fail) ?_
            (repeat (first | with_reducible refine W.seq ?_ | with_reducible refine W.region ?_ | refine z_p (kk := ?_) | refine z_D (kk := ?_)))
            refine Ops.cut (fun ρ w' => ρ = [(3, .pointer (some ⟨b2, 0, none⟩)), (6, .pointer (some ⟨b6, 0, none⟩)), (10, .pointer (some ⟨b10, 0, none⟩)), (42, .slice At l.length ct), (43, .int .i64 l.length), (44, .int .i64 i), (11, .int .i64 i), (12, .pointer (some ⟨b12, 0, none⟩)), (64, .bool (evB dep i && !leafB l i))] ∧ w' = w12) ?_ ?_
            · refine Ops.callS rfl rfl rfl rfl rfl (atMax_c hG12 i (by omega) (by omega)) ?_
              cases hev : evB dep i with
              | false =>
                (repeat (first | with_reducible refine Ops.nil ?_ | refine z_p (kk := ?_) | refine z_n (kk := ?_)))
                exact W.endl ⟨_, ⟨rfl, rfl⟩, (by repeat (first | exact trivial | refine And.intro rfl ?_))⟩
              | true =>
                (repeat (first | refine z_p (kk := ?_) | refine z_y (kk := ?_) | refine z_D (kk := ?_)))
                refine Ops.callS rfl rfl rfl rfl rfl (isLeaf_c hG12 i (by omega) (by omega)) ?_
                cases hlf : leafB l i <;>
                · (repeat (first | with_reducible refine Ops.nil ?_ | refine z_p (kk := ?_) | refine z_y (kk := ?_)))
                  exact W.endl ⟨_, ⟨rfl, rfl⟩, (by repeat (first | exact trivial | refine And.intro rfl ?_))⟩
            rintro ρ w13 ⟨rfl, rfl⟩
            cases hgo : (evB dep i && !leafB l i) with
            | true =>
              simp only [Bool.and_eq_true, Bool.not_eq_true'] at hgo
              have hmem : rd out i ∈ kid l i := by
                have := hok i hil
                unfold okN at this
                rw [← hsame, hfi, hgo.1, hgo.2, if_pos (by rfl)] at this
                exact of_decide_eq_true this
              have hP' := hP2.max hTF hil hfi hgo.2 hgo.1 hmem
              have hrx : rd out i = out.getD i 0 := rfl
              rw [hrx] at hP'
              refine W.condT rfl rfl ?_
              skip
              refine W.ordA 5 [(0, 2), (1, 2), (2, 1), (3, 1), (4, 2), (5, 0)] rfl (by kernel_rfl) rfl (by kernel_rfl) (fun _ _ _ h => h) ?_
              (repeat (first | refine x_p (kk := ?_) | refine x_I (kk := fun _ => ?_) | refine x_D (kk := ?_)))
              refine OrdA.eff rfl (fun w' hw' => Ops.put rfl rfl rfl rfl rfl rfl rfl rfl (hM12.kp (Kp.of_below (S := fun _ => False) hw') (fun e => e)) (fun w14 hM14 k14 _ => Ops.nil (W.endl (VW.Ord.nil ?_))))
              have hb14 : Below w5.heap.size w5 w14 := Below.put (Below.via hb12 hw') k14 (fun j hj => by omega)
              have hB14 := (hB1012.kp (Kp.of_below (S := fun _ => False) hw') (fun e => e)).kp k14 (fun e => hne10 e.symm)
              (repeat (first | with_reducible refine Ops.nil ?_ | with_reducible refine W.region ?_ | refine z_p (kk := ?_) | refine z_a (kk := ?_) | with_reducible refine W.endb ?_))
              exact W.endl ⟨_, _, ⟨⟨i + 1, _, _, rfl, by omega, rfl, hb14, hB14, hM14, hP'⟩, by omega⟩, (by repeat (first | exact trivial | refine And.intro rfl ?_))⟩
            | false =>
              have hkl := hTF.klen i hil
              refine W.condF rfl rfl ?_
              (repeat (first | with_reducible refine W.seq ?_ | with_reducible refine Ops.nil ?_ | with_reducible refine W.region ?_ | refine z_p (kk := ?_) | with_reducible refine W.block ?_ | refine z_l (kk := ?_) | refine z_f (kk := ?_) | refine z_d (kk := ?_)))
              refine W.loop (fun m ρ w8 => ∃ (j : Nat) (h : Int → Bool), m = (kid l i).length - j ∧ j ≤ (kid l i).length ∧ ρ = [(3, .pointer (some ⟨b2, 0, none⟩)), (6, .pointer (some ⟨b6, 0, none⟩)), (10, .pointer (some ⟨b10, 0, none⟩)), (42, .slice At l.length ct), (43, .int .i64 l.length), (44, .int .i64 i), (50, .slice Ak (kid l i).length ck), (51, .int .i64 (kid l i).length), (52, .int .i64 j)] ∧ Below w5.heap.size w5 w8 ∧ Blk w8 b10 #[.map (some mb)] 79 ∧ MapB w8 mb h ∧ (∀ k, h k = (f2 k || decide (∃ b : Nat, b < j ∧ k_ l i b = k))))
                ⟨_, _, ⟨0, f2, rfl, Nat.zero_le _, rfl, hb12, hB1012, hM12, fun k => by rw [decide_eq_false (fun ⟨b, hb, _⟩ => by omega), Bool.or_false]⟩, (by repeat (first | exact trivial | refine And.intro rfl ?_))⟩ ?_
              clear hM12 hB1012 hb12
              rintro m ρ w8 ⟨j, h, rfl, hj, rfl, hb12, hB1012, hM, hh⟩
              (repeat (first | with_reducible refine W.seq ?_ | with_reducible refine Ops.nil ?_ | with_reducible refine W.region ?_ | refine z_p (kk := ?_)))
              (first | refine W.condD rfl (fun hc => ?_) (fun hc => ?_) | refine W.condE rfl (fun hc => ?_) (fun hc => ?_) | refine W.condN rfl (fun hc => ?_) (fun hc => ?_) | refine W.cond rfl (fun hc => ?_) (fun hc => ?_))
              · have hjl : j < (kid l i).length := by omega
                (repeat (first | with_reducible refine W.seq ?_ | with_reducible refine Ops.nil ?_ | with_reducible refine W.region ?_ | refine z_p (kk := ?_) | with_reducible refine W.skip ?_ | with_reducible refine W.block ?_ | refine z_d (kk := ?_) | refine z_I (kk := fun _ => ?_)))
                refine Ops.put rfl rfl rfl rfl rfl rfl rfl rfl hM (fun w9 hM9 k9 _ => ?_)
                have hb19 : Below w5.heap.size w5 w9 := Below.put hb12 k9 (fun j hj => by omega)
                have hB19 := hB1012.kp k9 (fun e => hne10 e.symm)
                have hh9 : ∀ k, (h k || k == (kid l i).getD j 0) = (f2 k || decide (∃ b : Nat, b < j + 1 ∧ k_ l i b = k)) := fun k => by
                  rw [hh k, Bool.or_assoc]
                  congr 1
                  rw [show (k == (kid l i).getD j 0) = decide (k = (kid l i).getD j 0) from rfl, ← Bool.decide_or, decide_eq_decide]
                  constructor
                  · rintro (⟨b, hb, e⟩ | e)
                    · exact ⟨b, by omega, e⟩
                    · exact ⟨j, by omega, e.symm⟩
                  · rintro ⟨b, hb, e⟩
                    by_cases hbj : b = j
                    · subst hbj; exact .inr e.symm
                    · exact .inl ⟨b, by omega, e⟩
                (repeat (first | with_reducible refine Ops.nil ?_ | with_reducible refine W.region ?_ | refine z_p (kk := ?_) | refine z_a (kk := ?_) | with_reducible refine W.endb ?_))
                exact W.endl ⟨_, _, ⟨⟨j + 1, _, rfl, by omega, rfl, hb19, hB19, hM9, hh9⟩, by omega⟩, (by repeat (first | exact trivial | refine And.intro rfl ?_))⟩
              · have hjl : j = (kid l i).length := by omega
                subst hjl
                have hP' : PI l dep (rd out) (i + 1) h gh := by
                  cases hlf : leafB l i with
                  | true =>
                    have hk0 : kid l i = [] := by unfold leafB at hlf; simpa using hlf
                    have : h = f2 := funext fun k => by rw [hh k, decide_eq_false (fun ⟨b, hb, _⟩ => by rw [hk0] at hb; simp at hb), Bool.or_false]
                    subst this
                    exact hP2.skip hTF hil (.inr hlf)
                  | false =>
                    rw [hlf] at hgo
                    exact hP2.min hTF hil hfi (by simpa using hgo) hh
                (repeat (first | with_reducible refine Ops.nil ?_ | with_reducible refine W.region ?_ | refine z_p (kk := ?_) | refine z_a (kk := ?_) | with_reducible refine W.endb ?_ | refine W.exit rfl ?_))
                exact W.endl ⟨_, _, ⟨⟨i + 1, h, gh, rfl, by omega, rfl, hb12, hB1012, hM, hP'⟩, by omega⟩, (by repeat (first | exact trivial | refine And.intro rfl ?_))⟩
        · have hil : i = l.length := by omega
          subst hil
          (repeat (first | with_reducible refine W.seq ?_ | with_reducible refine W.region ?_ | refine W.exit rfl ?_))
          have hf2 : ∀ c : Nat, c < l.length → f2 c = bsF.getD c false := fun c hc => PI.same hTF hP2 hbsF c (by omega) hc
          refine Ops.alloc rfl rfl rfl rfl (fun w11 b15 hM15 => ?_)
          refine Ops.st rfl rfl rfl rfl rfl rfl rfl hM15.at_ (by decide) (fun w12 hu15 => ?_)
          have k12 := hM15.kp.trans hu15.kp
          have hr15 := hM15.r_eq
          have hB15' : Blk w12 b15 #[.int .i64 far] 3 := hu15.blk
          have hb12 : Below w5.heap.size w5 w12 := Below.put hb10 k12 (fun j hj => by rcases hj with hj | hj; exact hj.elim; have := hb10.size; omega)
          have hM12 := hM.kp k12 (fun hj => by rcases hj with hj | hj; exact hj.elim; have := hM.lt; omega)
          have hB1012 := hB10.kp k12 (fun hj => by rcases hj with hj | hj; exact hj.elim; have := hB10.lt; omega)
          have hn15m : mb ≠ b15 := by have := hM.lt; omega
          have hn15b : b10 ≠ b15 := by have := hB10.lt; omega
          have hb155 : w5.heap.size ≤ b15 := by have := hb10.size; omega
          clear hM hB10 hM15 hu15
          refine Ops.nil ?_
          refine W.toJ (JW.seq (by exact rfl) ?_)
          (repeat (first | with_reducible refine W.region ?_ | refine z_D (kk := ?_)))
          refine Ops.call rfl rfl rfl rfl rfl (leavesF_c w12 (some ⟨g, 0, none⟩)) (fun r w13 hR => ?_)
          obtain ⟨b97, rfl, hB97, hb1213, hge97⟩ := hR
          have hb13 := Below.via hb12 hb1213
          have hM13 := hM12.kp (Kp.of_below (S := fun _ => False) hb1213) (fun e => e)
          have hB1013 := hB1012.kp (Kp.of_below (S := fun _ => False) hb1213) (fun e => e)
          have hB1513 := hB15'.kp (Kp.of_below (S := fun _ => False) hb1213) (fun e => e)
          have hn97 : b97 ≠ b15 := by have := hB15'.lt; omega
          refine Ops.nil (W.endl ?_)
          refine JW.sub (ρ' := [(6, .pointer (some ⟨b6, 0, none⟩)), (10, .pointer (some ⟨b10, 0, none⟩)), (15, .pointer (some ⟨b15, 0, none⟩)), (81, .func (.func 97) #[] #[.pointer (some ⟨b97, 0, none⟩)])]) (by repeat (first | exact trivial | refine And.intro rfl ?_)) ?_
          have hmlt := hM13.lt
          have hblt := hB1013.lt
          have h97lt := hB97.lt
          have h15lt := hB1513.lt
          have hsz13 := hb13.size
          have hw5b : ∀ W, Kp (fun k => k = b15 ∨ w13.heap.size ≤ k) w13 W → Below w5.heap.size w5 W := fun W hk => Below.put hb13 hk (fun k e => by omega)
          refine JW.leaves (g := g) (b97 := b97) (I := fun i W => Kp (fun k => k = b15 ∨ w13.heap.size ≤ k) w13 W ∧ Blk W b15 #[.int .i64 (lst l (fun i => bsF.getD i false) far i)] 3) hTF rfl (by exact rfl) (by exact rfl)
            (fun i W h => ⟨hB97.kp h.1 (fun e => by omega), hG5.below (hw5b W h.1)⟩)
            (fun i W W' h hk => ⟨(h.1.trans hk).mono (fun k _ e => by omega), h.2.kp hk (fun e => by omega)⟩)
            (fun i W h hi hl => ⟨h.1, by simp only [lst, hl, Bool.and_false]; exact h.2⟩)
            ⟨(Kp.of_below (Below.refl _ _)), hB1513⟩ (fun L i wr h hi hl hL => ?_) (fun D W3 h hD hDge => ?_)
          · refine Wi.regionN rfl rfl ?_
            (repeat (first | with_reducible refine Ops.nil ?_ | refine z_p (kk := ?_)))
            refine W.endl ⟨rfl, rfl, fun wq h' => ?_⟩
            obtain ⟨hk', hB'⟩ := h'
            have hM' := hM13.kp hk' (fun e => by omega)
            have hB10' := hB1013.kp hk' (fun e => by omega)
            have hb5' := hw5b wq hk'
            have hG' := hG5.below hb5'
            refine Wi.block (Wi.seq (Wi.regionN rfl rfl ?_))
            (repeat (first | refine z_p (kk := ?_) | refine z_d (kk := ?_)))
            refine Ops.look rfl rfl rfl rfl rfl rfl rfl rfl hM' ?_
            rw [hf2 i hi]
            refine Ops.nil (W.endl ?_)
            refine Wi.cond rfl (fun hc => ?_) (fun hc => Wi.skip ⟨rfl, ⟨hk', ?_⟩, Kp.of_below (Below.refl _ _)⟩)
            · have hls : lst l (fun i => bsF.getD i false) far (i + 1) = min (lst l (fun i => bsF.getD i false) far i) (wor l i) := by simp only [lst, hl, hc]; rfl
              rw [hls]
              refine Wi.ordA 5 [(0, 2), (1, 2), (2, 1), (3, 2), (4, 1), (5, 0)] rfl (by kernel_rfl) (by kernel_rfl) (by kernel_rfl) rfl (by kernel_rfl) ?_
              (repeat (first | refine x_p (kk := ?_) | refine x_D (kk := ?_)))
              refine OrdA.call rfl rfl rfl rfl rfl rfl rfl (fun w' hw' => (worth_c (hG'.below hw') i (by omega) (by omega)).mono fun e w'' ⟨v, he, hv⟩ => ⟨v, he, hv.1, by rw [hv.2]; exact hw'⟩) ?_
              (repeat (first | refine x_m (kk := ?_)))
              refine OrdA.eff rfl (fun w' hw' => Ops.st rfl rfl rfl rfl rfl rfl rfl (hB'.kp (Kp.of_below (S := fun _ => False) hw') (fun e => e)) (by simp) (fun w14 hu14 => Ops.nil (W.endl (VW.Ord.nil (W.endl ?_)))))
              have hkk := (Kp.of_below (S := fun k => k = b15) hw').trans hu14.kp
              exact ⟨rfl, ⟨(hk'.trans hkk).mono (fun k _ e => by omega), by simpa using hu14.blk⟩, hkk.mono (fun k _ e => by omega)⟩
            · simp only [lst, hc, Bool.false_and]; exact hB'
          · obtain ⟨hk3, hB3⟩ := h
            have hb53 := hw5b W3 hk3
            have hb03 := Below.via hb05 hb53
            (repeat (first | with_reducible refine W.seq ?_ | with_reducible refine Ops.nil ?_ | with_reducible refine W.region ?_ | refine z_p (kk := ?_) | refine z_d (kk := ?_)))
            refine W.ret ⟨rfl, hD, _, fun a hr => run_results hr rfl, ?_⟩
            have hbf := Below.put hb03 (kp_putObj (r := D) (.deferred none)) (fun k hk => by have := hb05.size; omega)
            exact ⟨hbf, Or.inl ⟨hxl, hok, rfl⟩⟩
      · have hno : ¬ OkP l dep xs bsF := fun hok => by
          obtain ⟨h1, h2, h3⟩ := plan_of_ok hTF hbsF hP hok hxl
          refine hgo ⟨?_, h1⟩
          rw [← hq]
          exact asked_all.2 fun i hi a b c => decide_eq_true (h3 i hi a b c)
        have : (q && decide (out = xs)) = false := by
          cases q with
          | false => rfl
          | true => rw [Bool.true_and]; exact decide_eq_false fun e => hgo ⟨rfl, e⟩
        rw [this]
        refine W.condT rfl rfl ?_
        (repeat (first | with_reducible refine W.seq ?_ | with_reducible refine Ops.nil ?_ | with_reducible refine W.region ?_ | refine z_p (kk := ?_)))
        exact W.fret rfl ⟨hb09, Or.inr ⟨fun h => hno h.2, rfl⟩⟩
    · refine W.condT rfl (by first | rfl | assumption | (simp only [bnf] <;> omega) | (simp only [*, bnf]; done) | fail) ?_
      (repeat (first | with_reducible refine W.seq ?_ | with_reducible refine Ops.nil ?_ | with_reducible refine W.region ?_ | refine z_p (kk := ?_)))
      exact W.fret rfl ⟨hb05, Or.inr ⟨fun h => hxl h.1, rfl⟩⟩
end Go.Proofs.Ytdiljpnfochndaa
namespace Go.Proofs.Ytdiljpnfochndaa
open Go Go.RowKit Go.Proofs.Ytdiljpnfochndaa.VW
open Go.Proofs.Ytdiljpnfochndaa.HP (Nd kid wor leafB rd modM modM_bd chM chM_len rounds tameM tameN addKid)
attribute [local irreducible] W Ops
theorem wrap_u (x : Int) : IntKind.u64.wrap x = x % 18446744073709551616 := by
  simp [IntKind.wrap, IntKind.bits, IntKind.signed]
theorem wrap_i {x : Int} (h0 : 0 ≤ x) (h1 : x < 9223372036854775808) : IntKind.i64.wrap x = x := by
  have : x % 18446744073709551616 = x := by omega
  simp [IntKind.wrap, IntKind.bits, IntKind.signed, this]
  omega
theorem mod_c (x n : Int) (w : World) (h0 : 0 < n) (h1 : n < 9223372036854775808) : Calls Try.prog 34 #[.int .i64 x, .int .i64 n] w (Ret fun r w' => r = .int .i64 (modM x n) ∧ w' = w) := by
  refine calls_W (vs := [_, _]) Try.func34 rfl (by kernel_rfl) rfl ?_
  (repeat (first | with_reducible refine W.seq ?_ | with_reducible refine Ops.nil ?_ | with_reducible refine W.region ?_ | refine z_p (kk := ?_)))
  refine Ops.cv rfl rfl rfl rfl rfl rfl ?_
  (repeat (first | refine z_p (kk := ?_)))
  refine Ops.cv rfl rfl rfl rfl rfl rfl ?_
  have hn : IntKind.u64.wrap n = n := by rw [wrap_u]; omega
  refine Ops.remK rfl rfl rfl rfl rfl (by rw [hn]; omega) ?_
  refine Ops.cv rfl rfl rfl rfl rfl rfl ?_
  (repeat (first | with_reducible refine Ops.nil ?_ | refine z_p (kk := ?_)))
  refine W.fret rfl ⟨?_, rfl⟩
  have hb := modM_bd x h0
  show Value.int .i64 _ = _
  rw [hn, wrap_u, Int.tmod_eq_emod_of_nonneg (Int.emod_nonneg _ (by omega))]
  exact congrArg _ (wrap_i hb.1 (Int.lt_trans hb.2 h1))
def pickL (p : Nat → Bool) (n : Nat) : List Int := ((List.range n).filter p).map fun (i : Nat) => (i : Int)
theorem pickL_succ (p : Nat → Bool) (n : Nat) : pickL p (n + 1) = pickL p n ++ if p n then [(n : Int)] else [] := by
  unfold pickL
  rw [List.range_succ, List.filter_append, List.map_append]
  congr 1
  by_cases h : p n <;> simp [h]
theorem pickL_len (p : Nat → Bool) (n : Nat) : (pickL p n).length ≤ n := by
  unfold pickL
  rw [List.length_map]
  exact Nat.le_trans (List.length_filter_le _ _) (by simp)
theorem leafB_len (l : List Nd) (i : Int) : leafB l i = (((kid l i).length : Int) == 0) := by
  unfold leafB
  cases kid l i with
  | nil => rfl
  | cons a r => simp; omega
def someP (l : List Nd) (os : List Int) (i : Nat) : Bool := leafB l i && decide (i < os.length) && (modM (os.getD i 0) 2 == 1)
theorem some_c {w : World} {v ov : Value} {l : List Nd} {os : List Int} (hT : TreeM w v l) (hn : l.length ≤ 60) (ho : SlI w ov os) :
    Calls Try.prog 36 #[v, ov] w (Ret fun r w' => FInv w w' r (pickL (someP l os) l.length)) := by
  obtain ⟨A, c, rfl⟩ := hT.sl
  have hol := Sl.len ho
  obtain ⟨A2, c2, rfl⟩ := Sl.sl ho
  refine calls_W (vs := [_, _]) Try.func36 rfl (by kernel_rfl) rfl ?_
  (repeat (first | with_reducible refine W.seq ?_ | with_reducible refine Ops.nil ?_ | with_reducible refine W.region ?_ | refine z_p (kk := ?_) | with_reducible refine W.block ?_))
  refine W.loop (fun m ρ w3 => ∃ (j : Nat) (lv : Value), m = l.length - j ∧ j ≤ l.length ∧ ρ = [(0, .slice A l.length c), (1, .slice A2 os.length c2), (5, lv), (6, .int .i64 j)] ∧ FInv w w3 lv (pickL (someP l os) j))
    ⟨_, _, ⟨0, _, rfl, Nat.zero_le _, rfl, FInv.nil (Below.refl _ _)⟩, (by repeat (first | exact trivial | refine And.intro rfl ?_))⟩ ?_
  rintro m ρ w3 ⟨j, lv, rfl, hj, rfl, hI⟩
  have hb3 := hI.bel
  have ho3 := Sl.below ho hb3
  have hpl := pickL_len (someP l os) j
  (repeat (first | with_reducible refine W.seq ?_ | with_reducible refine Ops.nil ?_ | with_reducible refine W.region ?_ | refine z_p (kk := ?_) | refine z_l (kk := ?_)))
  refine W.cond rfl (fun hc => ?_) (fun hc => ?_)
  · have hlt : j < l.length := by simp at hc; omega
    (repeat (first | with_reducible refine W.seq ?_ | with_reducible refine W.region ?_ | refine z_p (kk := ?_) | with_reducible refine W.skip ?_ | with_reducible refine W.block ?_))
    refine Ops.rdK rfl rfl rfl rfl rfl rfl rfl rfl rfl rfl rfl rfl rfl rfl rfl hT hb3 (by omega) (by omega) (fun cv p q hcv => ?_)
    obtain ⟨Ac, cc, rfl⟩ := Sl.sl hcv
    refine Ops.cut (fun ρ w' => ∃ b : Bool, ρ = [(0, .slice A l.length c), (1, .slice A2 os.length c2), (5, lv), (6, .int .i64 j), (33, .bool b)] ∧ w' = w3 ∧ b = someP l os j) ?_ ?_
    · (repeat' (first | with_reducible refine Ops.nil ?_ | refine z_p (kk := ?_) | refine z_y (kk := ?_) | refine z_n (kk := ?_) | refine z_l (kk := ?_) | refine Ops.gdT rfl rfl rfl rfl (fun _ => ?_) (fun _ => ?_) | refine Ops.callS rfl rfl rfl rfl rfl (mod_c _ _ _ (by decide) (by decide)) ?_ | (refine Ops.rdSg (enc := Value.int .i64) (z := (0 : Int)) rfl rfl rfl rfl rfl rfl rfl rfl rfl rfl rfl rfl rfl rfl ho3 (by omega) (by rename_i hh; simp at hh; omega) (fun p => ?_))))
      all_goals refine W.endl ⟨_, ⟨_, rfl, rfl, ?_⟩, (by repeat (first | exact trivial | refine And.intro rfl ?_))⟩
      all_goals clear ho ho3 hI hT hcv
      · rename_i h1 h2
        unfold someP
        rw [leafB_len, h1, show decide (j < os.length) = true by simpa using h2]
        rfl
      · rename_i h1 h2
        unfold someP
        rw [leafB_len, h1, show decide (j < os.length) = false by simpa using h2]
        rfl
      · rename_i h1
        unfold someP
        rw [leafB_len, h1]
        rfl
    · rintro ρ w4 ⟨b, rfl, rfl, hb⟩
      skip
      have hs := pickL_succ (someP l os) j
      rw [← hb] at hs
      refine W.cond rfl (fun hc2 => ?_) (fun hc2 => ?_)
      · rw [hc2, if_pos rfl] at hs
        (repeat (first | with_reducible refine W.region ?_ | refine z_p (kk := ?_)))
        refine Ops.push rfl rfl rfl rfl rfl rfl rfl rfl rfl rfl rfl rfl (fun _ => rfl) rfl hI.own (by omega) (fun lv' p w5 ho5 k5 hn5 => ?_)
        have hI5 := hI.push ho5 k5 hn5
        rw [← hs] at hI5
        (repeat (first | with_reducible refine Ops.nil ?_ | with_reducible refine W.region ?_ | refine z_p (kk := ?_) | refine z_a (kk := ?_) | with_reducible refine W.endb ?_))
        exact W.endl ⟨_, _, ⟨⟨j + 1, _, rfl, by omega, rfl, hI5⟩, by omega⟩, (by repeat (first | exact trivial | refine And.intro rfl ?_))⟩
      · rw [hc2, if_neg (by simp), List.append_nil] at hs
        rw [← hs] at hI
        (repeat (first | with_reducible refine Ops.nil ?_ | with_reducible refine W.region ?_ | refine z_p (kk := ?_) | refine z_a (kk := ?_) | with_reducible refine W.skip ?_ | with_reducible refine W.endb ?_))
        exact W.endl ⟨_, _, ⟨⟨j + 1, _, rfl, by omega, rfl, hI⟩, by omega⟩, (by repeat (first | exact trivial | refine And.intro rfl ?_))⟩
  · have hlt : j = l.length := by simp at hc; omega
    subst hlt
    (repeat (first | with_reducible refine W.seq ?_ | with_reducible refine Ops.nil ?_ | with_reducible refine W.region ?_ | refine z_p (kk := ?_) | refine W.exit rfl ?_))
    exact W.fret rfl hI
end Go.Proofs.Ytdiljpnfochndaa
namespace Go.Proofs.Ytdiljpnfochndaa
open Go Go.RowKit Go.Proofs.Ytdiljpnfochndaa.VW
open Go.Proofs.Ytdiljpnfochndaa.HP (Nd kid wor leafB rd modM modM_bd chM chM_len rounds tameM tameN addKid tameM_len tameM_at)
attribute [local irreducible] W Ops
/-- Slices of numbers of the call's own, each in its own block, in a slice of the call's own. -/
structure LL (w0 w : World) (ov : Value) (c : List (List Int)) (svs : List Value) : Prop where
  bel : Below w0.heap.size w0 w
  ge : ∀ k, ov.ownBlock = some k → w0.heap.size ≤ k
  row : w.ownsRow 0 24 1 ov c.length svs
  own : ∀ j, j < c.length → w.ownsRow 0 3 1 (svs.getD j undef) (c.getD j []).length ((c.getD j []).map (Value.int .i64))
  sep : ∀ j, j < c.length → ∀ k, (svs.getD j undef).ownBlock = some k → w0.heap.size ≤ k ∧ ov.ownBlock ≠ some k
  two : ∀ j j', j < c.length → j' < c.length → j ≠ j' → ∀ k, (svs.getD j undef).ownBlock = some k → (svs.getD j' undef).ownBlock ≠ some k
theorem LL.len {w0 w : World} {ov : Value} {c : List (List Int)} {svs : List Value} (h : LL w0 w ov c svs) : svs.length = c.length := by have := h.row.1; omega
theorem LL.kp {w0 w w' : World} {ov : Value} {c : List (List Int)} {svs : List Value} {S : Nat → Prop} (h : LL w0 w ov c svs) (k : Kp S w w') (hs : ∀ i, S i → w0.heap.size ≤ i ∧ ov.ownBlock ≠ some i ∧ ∀ j, j < c.length → (svs.getD j undef).ownBlock ≠ some i) : LL w0 w' ov c svs :=
  ⟨Below.at_ h.bel k (fun i hi => (hs i hi).1), h.ge, own_kp h.row k (fun i hi e => (hs i e).2.1 hi), fun j hj => own_kp (h.own j hj) k (fun i hi e => (hs i e).2.2 j hj hi), h.sep, h.two⟩
theorem LL.fresh {w0 w w' : World} {ov : Value} {c : List (List Int)} {svs : List Value} {S : Nat → Prop} (h : LL w0 w ov c svs) (k : Kp S w w') (hs : ∀ i, S i → w.heap.size ≤ i) : LL w0 w' ov c svs :=
  h.kp k fun i hi => ⟨by have := h.bel.size; have := hs i hi; omega, fun e => by have := (h.row.lt i e).2; have := hs i hi; omega, fun j hj e => by have := ((h.own j hj).lt i e).2; have := hs i hi; omega⟩
/-- An empty one more. -/
theorem LL.pushNil {w0 w w' : World} {ov ov' : Value} {c : List (List Int)} {svs : List Value} (h : LL w0 w ov c svs) (ho : w'.ownsRow 0 24 1 ov' (c.length + 1) (svs ++ [.slice none 0 0])) (k : Kp (fun i => ov.ownBlock = some i) w w')
    (hn : ∀ i, ov'.ownBlock = some i → ov.ownBlock = some i ∨ w.heap.size ≤ i) : LL w0 w' ov' (c ++ [[]]) (svs ++ [.slice none 0 0]) := by
  have hl := h.len
  have hg : ∀ j, j < c.length → (svs ++ [Value.slice none 0 0]).getD j undef = svs.getD j undef ∧ (c ++ [[]]).getD j [] = c.getD j [] := fun j hj => ⟨app_getD (by omega), app_getD hj⟩
  have hlast : (svs ++ [Value.slice none 0 0]).getD c.length undef = .slice none 0 0 ∧ (c ++ [[]]).getD c.length [] = [] := ⟨app_last hl.symm, app_last rfl⟩
  have hb : ∀ i, ov'.ownBlock = some i → w0.heap.size ≤ i := fun i hi => by
    rcases hn i hi with e | e
    · exact h.ge i e
    · have := h.bel.size; omega
  refine ⟨Below.at_ h.bel k (fun i hi => h.ge i hi), hb, by simpa using ho, fun j hj => ?_, fun j hj i hi => ?_, fun j j' hj hj' hne i hi => ?_⟩
  · simp at hj
    by_cases e : j = c.length
    · subst e
      rw [hlast.1, hlast.2]
      exact own_nil _ _ _
    · have hj' : j < c.length := by omega
      rw [(hg j hj').1, (hg j hj').2]
      exact own_kp (h.own j hj') k (fun i hi e => (h.sep j hj' i hi).2 e)
  · simp at hj
    by_cases e : j = c.length
    · subst e
      rw [hlast.1] at hi
      simp [Value.ownBlock] at hi
    · have hj' : j < c.length := by omega
      rw [(hg j hj').1] at hi
      refine ⟨(h.sep j hj' i hi).1, fun e => ?_⟩
      rcases hn i e with e2 | e2
      · exact (h.sep j hj' i hi).2 e2
      · have := ((h.own j hj').lt i hi).2; omega
  · simp at hj hj'
    by_cases e : j = c.length
    · subst e
      rw [hlast.1] at hi
      simp [Value.ownBlock] at hi
    · by_cases e' : j' = c.length
      · subst e'
        rw [hlast.1]
        simp [Value.ownBlock]
      · rw [(hg j (by omega)).1] at hi
        rw [(hg j' (by omega)).1]
        exact h.two j j' (by omega) (by omega) hne i hi
/-- A number more in one of them. -/
theorem LL.grow {w0 w w1 w' : World} {ov lv' : Value} {c : List (List Int)} {svs : List Value} {p : Nat} {x : Int} (h : LL w0 w ov c svs) (hp : p < c.length)
    (ho : w1.ownsRow 0 3 1 lv' ((c.getD p []).length + 1) ((c.getD p []).map (Value.int .i64) ++ [.int .i64 x])) (k : Kp (fun i => (svs.getD p undef).ownBlock = some i) w w1)
    (hn : ∀ i, lv'.ownBlock = some i → (svs.getD p undef).ownBlock = some i ∨ w.heap.size ≤ i) (ho' : w'.ownsRow 0 24 1 ov c.length (svs.set p lv')) (k' : Kp (fun i => ov.ownBlock = some i) w1 w') : LL w0 w' ov (c.set p (c.getD p [] ++ [x])) (svs.set p lv') := by
  have hl := h.len
  have hsep : ∀ i, lv'.ownBlock = some i → w0.heap.size ≤ i ∧ ov.ownBlock ≠ some i := fun i hi => by
    rcases hn i hi with e | e
    · exact h.sep p hp i e
    · have := h.bel.size; exact ⟨by omega, fun e2 => by have := (h.row.lt i e2).2; omega⟩
  refine ⟨Below.at_ (Below.at_ h.bel k (fun i hi => (h.sep p hp i hi).1)) k' (fun i hi => h.ge i hi), h.ge, by simpa using ho', fun j hj => ?_, fun j hj i hi => ?_, fun j j' hj hj' hne i hi => ?_⟩
  · simp at hj
    by_cases e : p = j
    · subst e
      rw [lgetD_set_eq (by omega), lgetD_set_eq (by omega)]
      have := own_kp ho k' (fun i hi e => (hsep i hi).2 e)
      simpa using this
    · rw [lgetD_set_ne e, lgetD_set_ne e]
      exact own_kp (own_kp (h.own j hj) k (fun i hi e2 => h.two p j hp hj e i e2 hi)) k' (fun i hi e2 => (h.sep j hj i hi).2 e2)
  · simp at hj
    by_cases e : p = j
    · subst e
      rw [lgetD_set_eq (by omega)] at hi
      exact hsep i hi
    · rw [lgetD_set_ne e] at hi
      exact h.sep j hj i hi
  · simp at hj hj'
    by_cases e : p = j
    · subst e
      rw [lgetD_set_eq (by omega)] at hi
      rw [lgetD_set_ne hne]
      rcases hn i hi with e2 | e2
      · exact h.two p j' hp hj' hne i e2
      · intro e3; have := ((h.own j' hj').lt i e3).2; omega
    · rw [lgetD_set_ne e] at hi
      by_cases e' : p = j'
      · subst e'
        rw [lgetD_set_eq (by omega)]
        intro e3
        rcases hn i e3 with e4 | e4
        · exact h.two j p hj hp hne i hi e4
        · have := ((h.own j hj).lt i hi).2; omega
      · rw [lgetD_set_ne e']
        exact h.two j j' hj hj' hne i hi
end Go.Proofs.Ytdiljpnfochndaa
namespace Go.Proofs.Ytdiljpnfochndaa
open Go Go.RowKit Go.Proofs.Ytdiljpnfochndaa.VW
open Go.Proofs.Ytdiljpnfochndaa.HP (Nd kid wor leafB rd modM modM_bd chM chM_len rounds tameM tameN addKid tameM_len tameM_at)
attribute [local irreducible] W Ops
theorem chM_sum (ps : List Int) : ∀ i j, ((chM ps i).getD j []).length ≤ i
  | 0, j => by
    cases j with
    | zero => simp [chM]
    | succ j => simp [chM]
  | i + 1, j => by
    have hp : (modM (ps.getD i 0) (i + 1)).toNat < (chM ps i).length := by
      have := modM_bd (ps.getD i 0) (n := (i : Int) + 1) (by omega)
      rw [chM_len]; omega
    have hl := chM_len ps i
    simp only [chM]
    by_cases e : j = (modM (ps.getD i 0) (i + 1)).toNat
    · subst e
      rw [Go.Proofs.Ytdiljpnfochndaa.HP.addKid_p hp, List.length_append, List.length_singleton]
      have := chM_sum ps i (modM (ps.getD i 0) (i + 1)).toNat
      omega
    · by_cases hj : j < (chM ps i).length
      · rw [Go.Proofs.Ytdiljpnfochndaa.HP.addKid_ne e hj]
        have := chM_sum ps i j
        omega
      · by_cases hj2 : j = (chM ps i).length
        · subst hj2
          rw [Go.Proofs.Ytdiljpnfochndaa.HP.addKid_new hp]
          simp
        · rw [List.getD_eq_getElem?_getD, List.getElem?_eq_none (by rw [Go.Proofs.Ytdiljpnfochndaa.HP.addKid_len]; omega)]
          simp
theorem gapp {α : Type} {xs ys : List α} {i : Nat} {d : α} (h : i < xs.length) : (xs ++ ys).getD i d = xs.getD i d := by rw [List.getD_eq_getElem?_getD, List.getElem?_append_left h, ← List.getD_eq_getElem?_getD]
/-- A tree, whose lists of children have room for themselves. -/
def TreeC (w : World) (v : Value) (l : List Nd) : Prop := ∃ g c cvs, v = .slice (some ⟨g, 0, none⟩) l.length c ∧ (∀ j, j < l.length → w.cell? ⟨g, j * 2, none⟩ = some (List.getD cvs j undef) ∧ w.cell? ⟨g, j * 2 + 1, none⟩ = some (.int .i64 (l.getD j ([], 0)).2)) ∧
  ∀ j, j < l.length → SlI w (List.getD cvs j undef) (l.getD j ([], 0)).1 ∧ ∃ A c, List.getD cvs j undef = .slice A (l.getD j ([], 0)).1.length c ∧ (l.getD j ([], 0)).1.length ≤ c
theorem TreeC.treeM {w : World} {v : Value} {l : List Nd} (h : TreeC w v l) : TreeM w v l := by
  obtain ⟨g, c, cvs, e, h1, h2⟩ := h
  exact ⟨some ⟨g, 0, none⟩, c, cvs, e, fun _ => ⟨_, rfl, fun j hj => by rw [add_lit, add_lit, Nat.zero_add]; exact h1 j hj⟩, fun j hj => (h2 j hj).1⟩
set_option maxRecDepth 100000 in
theorem tameA_c {w : World} {pv wv : Value} {ps ws : List Int} {most : Nat} (hp : SlI w pv ps) (hw : SlI w wv ws) (h1 : 1 ≤ most) (hm : most ≤ 60) :
    Calls Try.prog 33 #[pv, wv, .int .i64 most] w (Ret fun r w' => TreeC w' r (tameM ps ws most) ∧ Below w.heap.size w w') := by
  have hpl := Sl.len hp
  have hwl := Sl.len hw
  obtain ⟨Ap, cp, rfl⟩ := Sl.sl hp
  obtain ⟨Aw, cw, rfl⟩ := Sl.sl hw
  refine calls_W (vs := [_, _, _]) Try.func33 rfl (by kernel_rfl) rfl ?_
  (repeat (first | with_reducible refine W.seq ?_ | with_reducible refine Ops.nil ?_ | with_reducible refine W.region ?_ | refine z_p (kk := ?_)))
  refine Ops.push rfl rfl rfl rfl rfl rfl rfl rfl rfl rfl rfl rfl (fun _ => rfl) rfl (own_nil w 24 1) (by omega) (fun ov p w1 ho1 k1 hn1 => ?_)
  have hL1 : LL w w1 ov (chM ps 0) [.slice none 0 0] := by
    have h0 : LL w w (.slice none 0 0) [] [] := ⟨Below.refl _ _, fun k hk => by simp [Value.ownBlock] at hk, own_nil _ _ _, fun j hj => by simp at hj, fun j hj => by simp at hj, fun j j' hj => by simp at hj⟩
    exact h0.pushNil ho1 k1 hn1
  (repeat (first | with_reducible refine W.seq ?_ | with_reducible refine Ops.nil ?_ | with_reducible refine W.region ?_ | refine z_p (kk := ?_) | with_reducible refine W.block ?_))
  refine W.loop (fun m ρ w3 => ∃ (j : Nat) (ov : Value) (svs : List Value), m = rounds ps most - j ∧ j ≤ rounds ps most ∧ ρ = [(0, .slice Ap ps.length cp), (1, .slice Aw ws.length cw), (2, .int .i64 most), (7, ov), (8, .int .i64 (j + 1))] ∧ LL w w3 ov (chM ps j) svs)
    ⟨_, _, ⟨0, _, _, rfl, Nat.zero_le _, rfl, hL1⟩, (by repeat (first | exact trivial | refine And.intro rfl ?_))⟩ ?_
  clear hL1 hn1 k1 ho1
  rintro m ρ w3 ⟨j, ov, svs, rfl, hj, rfl, hL⟩
  have hrd : rounds ps most = min (most - 1) ps.length := rfl
  (repeat (first | with_reducible refine W.seq ?_ | with_reducible refine W.region ?_ | refine z_p (kk := ?_)))
  refine Ops.cut (fun ρ w' => ∃ b : Bool, ρ = [(0, .slice Ap ps.length cp), (1, .slice Aw ws.length cw), (2, .int .i64 most), (7, ov), (8, .int .i64 (j + 1)), (25, .bool b)] ∧ w' = w3 ∧ (b = true ↔ j < rounds ps most)) ?_ ?_
  · (repeat' (first | with_reducible refine Ops.nil ?_ | refine z_p (kk := ?_) | refine z_y (kk := ?_) | refine z_n (kk := ?_) | refine z_l (kk := ?_) | refine Ops.gdT rfl rfl rfl rfl (fun _ => ?_) (fun _ => ?_)))
    all_goals refine W.endl ⟨_, ⟨_, rfl, rfl, ?_⟩, (by repeat (first | exact trivial | refine And.intro rfl ?_))⟩
    · rename_i h; simp at h ⊢; omega
    · rename_i h; simp at h ⊢; omega
  · rintro ρ w4 ⟨b, rfl, rfl, hb⟩
    refine W.cond rfl (fun hc => ?_) (fun hc => ?_)
    · have hlt := hb.1 hc
      have hmp := modM_bd (ps.getD j 0) (n := (j : Int) + 1) (by omega)
      have hcl := chM_len ps j
      have hadd : chM ps (j + 1) = ((chM ps j) ++ [[]]).set (modM (ps.getD j 0) (j + 1)).toNat ((chM ps j).getD (modM (ps.getD j 0) (j + 1)).toNat [] ++ [((j : Int) + 1)]) := by
        simp only [chM, addKid, hcl]
        rfl
      have hsum := chM_sum ps j (modM (ps.getD j 0) (j + 1)).toNat
      (repeat (first | with_reducible refine W.seq ?_ | with_reducible refine W.region ?_ | refine z_p (kk := ?_) | refine z_a (kk := ?_) | with_reducible refine W.skip ?_ | with_reducible refine W.block ?_))
      refine Ops.rdS (enc := Value.int .i64) (z := (0 : Int)) rfl rfl rfl rfl rfl rfl rfl rfl rfl rfl rfl (Sl.below hp hL.bel) (by omega) (by omega) (fun p => ?_)
      rw [show ((j : Int) + 1 - 1).toNat = j by omega]
      (repeat (first | refine z_p (kk := ?_)))
      refine Ops.callS rfl rfl rfl rfl rfl (mod_c _ _ _ (by omega) (by omega)) ?_
      generalize modM (ps.getD j 0) (j + 1) = pp at *
      obtain ⟨q, rfl⟩ := Int.eq_ofNat_of_zero_le hmp.1
      (repeat (first | with_reducible refine W.seq ?_ | with_reducible refine Ops.nil ?_ | with_reducible refine W.region ?_ | refine z_p (kk := ?_)))
      refine Ops.push rfl rfl rfl rfl rfl rfl rfl rfl rfl rfl rfl rfl (fun _ => rfl) rfl hL.row (by omega) (fun ov2 p2 w5 ho5 k5 hn5 => ?_)
      have hL5 := hL.pushNil ho5 k5 hn5
      have hcl5 : (chM ps j ++ [[]]).length = j + 2 := by simp [hcl]
      have hgq : (chM ps j ++ [[]]).getD q [] = (chM ps j).getD q [] := app_getD (by omega)
      have hrow5 := hL5.row
      rw [hcl5] at hrow5
      obtain ⟨g, cap, cur, rfl, hBd, hszd⟩ := own_blk hrow5 (by omega)
      have hcell := own_cell hrow5 (a := q * 1) (b := 0) (by omega) (by omega)
      (repeat (first | with_reducible refine W.seq ?_ | with_reducible refine Ops.nil ?_ | with_reducible refine W.region ?_ | refine z_p (kk := ?_)))
      refine Ops.idx rfl rfl rfl rfl rfl rfl rfl (by omega) (by omega) (Ops.ld rfl rfl rfl rfl rfl (v := (svs ++ [Value.slice none 0 0]).getD q undef) (by simpa [add_lit] using hcell) ?_)
      have hownq := hL5.own q (by omega)
      rw [hgq] at hownq
      generalize hlvq : (svs ++ [Value.slice none 0 0]).getD q undef = lv at *
      (repeat (first | with_reducible refine Ops.nil ?_ | with_reducible refine W.region ?_ | refine z_p (kk := ?_)))
      simp only [Int.toNat_natCast] at hsum
      refine Ops.push rfl rfl rfl rfl rfl rfl rfl rfl rfl rfl rfl rfl (fun _ => rfl) rfl hownq (by omega) (fun lv2 p3 w6 ho6 k6 hn6 => ?_)
      have hB6 : Blk w6 g cur 24 := hBd.kp k6 (fun e => (hL5.sep q (by omega) g (by rw [hlvq]; exact e)).2 rfl)
      have hrow6 := own_kp hrow5 k6 (fun i hi e => (hL5.sep q (by omega) i (by rw [hlvq]; exact e)).2 hi)
      have hone2 : lv2.oneCell' = true := by obtain ⟨A, c, h⟩ := Sl.sl (own_sl (enc := Value.int .i64) (z := (0 : Int)) (xs := (chM ps j).getD q [] ++ [(j : Int) + 1]) (by simpa using ho6)); rw [h]; rfl
      refine Ops.idx rfl rfl rfl rfl rfl rfl rfl (by omega) (by omega) ?_
      rw [add_lit, Nat.zero_add]
      refine Ops.st rfl rfl rfl rfl rfl rfl hone2 hB6 (by simp; omega) (fun w7 hu7 => ?_)
      have hset := own_set hrow6 hB6 hu7
      have hL7 : LL w w7 (.slice (some ⟨g, 0, none⟩) (j + 2) cap) (chM ps (j + 1)) ((svs ++ [Value.slice none 0 0]).set q lv2) := by
        rw [hadd]
        have := hL5.grow (p := q) (x := (j : Int) + 1) (lv' := lv2) (w' := w7) (by omega) (by rw [hgq]; exact ho6) (by rw [hlvq]; exact k6) (by rw [hlvq]; exact hn6) (by rw [hcl5]; simpa using hset) (hu7.kp.mono (fun i _ e => by simp [Value.ownBlock, e]))
        rw [hgq] at this
        exact this
      (repeat (first | with_reducible refine Ops.nil ?_ | with_reducible refine W.region ?_ | refine z_p (kk := ?_) | refine z_a (kk := ?_) | with_reducible refine W.endb ?_))
      exact W.endl ⟨_, _, ⟨⟨j + 1, _, _, rfl, by omega, rfl, hL7⟩, by omega⟩, (by repeat (first | exact trivial | refine And.intro rfl ?_))⟩
    · have hlt : j = rounds ps most := by have := hb.2; rw [hc] at this; simp at this; omega
      subst hlt
      clear hb hj
      have hcl := chM_len ps (rounds ps most)
      have hrl : rounds ps most ≤ 59 := by omega
      generalize hR : rounds ps most = R at *
      generalize hC : chM ps R = C at *
      have hrow := hL.row
      rw [hcl] at hrow
      obtain ⟨g, cap, rfl, hcell⟩ := own_at hrow (by omega)
      (repeat (first | with_reducible refine W.seq ?_ | with_reducible refine Ops.nil ?_ | with_reducible refine W.region ?_ | refine z_p (kk := ?_) | with_reducible refine W.block ?_ | refine W.exit rfl ?_))
      refine W.loop (fun m ρ w5 => ∃ (j : Nat) (ov2 : Value) (xs : List Value), m = R + 1 - j ∧ j ≤ R + 1 ∧ ρ = [(1, .slice Aw ws.length cw), (7, .slice (some ⟨g, 0, none⟩) (R + 1) cap), (11, ov2), (12, .int .i64 j)] ∧ Below w4.heap.size w4 w5 ∧
          w5.ownsRow 0 47 2 ov2 j xs ∧ (∀ k, ov2.ownBlock = some k → w4.heap.size ≤ k) ∧ ∀ i, i < j → xs.getD (i * 2) undef = svs.getD i undef ∧ xs.getD (i * 2 + 1) undef = .int .i64 (tameN ps ws C i).2)
        ⟨_, _, ⟨0, _, [], rfl, Nat.zero_le _, rfl, Below.refl _ _, own_nil _ _ _, fun k hk => by simp [Value.ownBlock] at hk, fun i hi => by omega⟩, (by repeat (first | exact trivial | refine And.intro rfl ?_))⟩ ?_
      rintro m ρ w5 ⟨j, ov2, xs, rfl, hj, rfl, hb5, hown2, hge2, hxs⟩
      have hL5 := hL.fresh (Kp.of_below (S := fun _ => False) hb5) (fun _ e => e.elim)
      have hrow5 := hL5.row
      rw [hcl] at hrow5
      (repeat (first | with_reducible refine W.seq ?_ | with_reducible refine Ops.nil ?_ | with_reducible refine W.region ?_ | refine z_p (kk := ?_) | refine z_l (kk := ?_)))
      refine W.cond rfl (fun hc => ?_) (fun hc => ?_)
      · have hlt : j < R + 1 := by simp at hc; omega
        have hxl := hown2.1
        have hci := own_cell hrow5 (a := j * 1) (b := 0) (by omega) (by omega)
        have hownj := hL5.own j (by omega)
        obtain ⟨Aj, cj, hsj⟩ := Sl.sl (own_sl (enc := Value.int .i64) (z := (0 : Int)) hownj)
        have hone : (svs.getD j undef).oneCell' = true := by rw [hsj]; rfl
        have hci' : w5.cell? ⟨g, j, none⟩ = some (.slice Aj (C.getD j []).length cj) := by rw [← hsj]; simpa [add_lit] using hci
        (repeat (first | with_reducible refine W.seq ?_ | with_reducible refine W.region ?_ | refine z_p (kk := ?_) | with_reducible refine W.skip ?_ | with_reducible refine W.block ?_))
        refine Ops.idx rfl rfl rfl rfl rfl rfl rfl (by omega) (by omega) (Ops.ld rfl rfl rfl rfl rfl (v := .slice Aj (C.getD j []).length cj) (by simpa [add_lit] using hci') ?_)
        refine Ops.bldG (cs := #[.slice Aj (C.getD j []).length cj, .int .i64 0]) rfl rfl rfl rfl rfl rfl (by kernel_rfl) ?_
        refine Ops.alloc rfl rfl rfl rfl (fun w6 b hM => ?_)
        refine Ops.st2 rfl rfl rfl rfl rfl rfl rfl rfl hM.at_ (fun w7 hu7 => ?_)
        have hbe := hM.r_eq
        have k7 : Kp (fun i => w5.heap.size ≤ i) w5 w7 := (hM.kp.trans hu7.kp).mono (fun i _ e => by rcases e with e | e; exact e.elim; omega)
        have hci7 : w7.cell? ⟨g, j, none⟩ = some (.slice Aj (C.getD j []).length cj) := cell_kp k7 hci' (fun e => by
          have e2 : w5.heap.size ≤ g := e
          have := (hL5.row.lt g rfl).2
          omega)
        have hB7 := hu7.blk
        have hw7 := Sl.below hw (hL5.bel.trans ((Below.at_ (Below.refl _ _) k7 (fun i hi => hi)).mono hL5.bel.size))
        have htn : (tameN ps ws C j).2 = if (C.getD j []).length = 0 ∧ j < ws.length then modM (ws.getD j 0) 201 - 100 else 0 := rfl
        have hmb := modM_bd (ws.getD j 0) (n := 201) (by omega)
        (repeat (first | with_reducible refine W.seq ?_ | with_reducible refine Ops.nil ?_ | with_reducible refine W.region ?_ | refine z_p (kk := ?_)))
        refine Ops.idx rfl rfl rfl rfl rfl rfl rfl (by omega) (by omega) (Ops.ld rfl rfl rfl rfl rfl (v := .slice Aj (C.getD j []).length cj) (by simpa [add_lit] using hci7) ?_)
        refine Ops.cut (fun ρ w' => ∃ b' : Bool, ρ = [(1, .slice Aw ws.length cw), (7, .slice (some ⟨g, 0, none⟩) (R + 1) cap), (11, ov2), (12, .int .i64 j), (13, .pointer (some ⟨b, 0, none⟩)), (71, .bool b')] ∧ w' = w7 ∧ (b' = true ↔ (C.getD j []).length = 0 ∧ j < ws.length)) ?_ ?_
        · (repeat' (first | with_reducible refine Ops.nil ?_ | refine z_p (kk := ?_) | refine z_y (kk := ?_) | refine z_n (kk := ?_) | refine z_l (kk := ?_) | refine Ops.gdT rfl rfl rfl rfl (fun _ => ?_) (fun _ => ?_)))
          all_goals refine W.endl ⟨_, ⟨_, rfl, rfl, ?_⟩, (by repeat (first | exact trivial | refine And.intro rfl ?_))⟩
          · rename_i h
            have h' : (C.getD j []).length = 0 := by simpa using h
            simp only [h', true_and, decide_eq_true_eq]
            omega
          · rename_i h
            have h' : ¬ (C.getD j []).length = 0 := by simpa using h
            exact ⟨fun h => by simp at h, fun h => absurd h.1 h'⟩
        · rintro ρ w8 ⟨b', rfl, rfl, hb'⟩
          refine W.cut (fun ρ w' => ∃ z, ρ = [(1, .slice Aw ws.length cw), (7, .slice (some ⟨g, 0, none⟩) (R + 1) cap), (11, ov2), (12, .int .i64 j), (13, .pointer (some ⟨b, 0, none⟩))] ∧ Kp (fun i => w5.heap.size ≤ i) w5 w' ∧ z = (tameN ps ws C j).2 ∧ Blk w' b #[.slice Aj (C.getD j []).length cj, .int .i64 z] 47) ?_ ?_
          · refine W.cond rfl (fun hc => ?_) (fun hc => ?_)
            · have h2 := hb'.1 hc
              (repeat (first | with_reducible refine W.region ?_ | refine z_p (kk := ?_)))
              refine Ops.rdS (enc := Value.int .i64) (z := (0 : Int)) rfl rfl rfl rfl rfl rfl rfl rfl rfl rfl rfl hw7 (by omega) (by omega) (fun p => ?_)
              simp only [Int.toNat_natCast]
              skip
              refine Ops.callS rfl rfl rfl rfl rfl (mod_c _ _ _ (by decide) (by decide)) ?_
              (repeat (first | refine z_a (kk := ?_) | refine z_f (kk := ?_)))
              refine Ops.st rfl rfl rfl rfl rfl rfl rfl hB7 (by simp) (fun w9 hu9 => ?_)
              (repeat (first | with_reducible refine Ops.nil ?_))
              exact W.endl ⟨_, ⟨_, rfl, (k7.trans hu9.kp).mono (fun i _ e => by rcases e with e | e; exact e; omega), by rw [htn, if_pos h2], hu9.blk⟩, (by repeat (first | exact trivial | refine And.intro rfl ?_))⟩
            · (repeat (first | with_reducible refine W.skip ?_))
              exact W.endl ⟨_, ⟨_, rfl, k7, by rw [htn, if_neg (fun h => by have := hb'.2 h; rw [hc] at this; simp at this)], hB7⟩, (by repeat (first | exact trivial | refine And.intro rfl ?_))⟩
          · rintro ρ w9 ⟨z, rfl, k9, hz, hB9⟩
            (repeat (first | with_reducible refine W.region ?_ | refine z_p (kk := ?_)))
            refine Ops.ld2 rfl rfl rfl rfl rfl rfl (hB9.cell rfl) (by rw [add_lit]; exact hB9.cell rfl) ?_
            refine Ops.push2 rfl rfl rfl rfl rfl rfl rfl rfl rfl rfl rfl (fun _ => rfl) rfl rfl (own_kp hown2 k9 (fun i hi e => by have := (hown2.lt i hi).2; omega)) (by omega) (fun lv' p w10 ho10 k10 hn10 => ?_)
            have hb9 : Below w4.heap.size w4 w9 := Below.at_ hb5 k9 (fun i hi => by have := hb5.size; omega)
            (repeat (first | with_reducible refine Ops.nil ?_ | with_reducible refine W.region ?_ | refine z_p (kk := ?_) | refine z_a (kk := ?_) | with_reducible refine W.endb ?_))
            refine W.endl ⟨_, _, ⟨⟨j + 1, _, _, rfl, by omega, rfl, Below.at_ hb9 k10 (fun i hi => hge2 i hi), ho10, fun k hk => ?_, fun i hi => ?_⟩, by omega⟩, (by repeat (first | exact trivial | refine And.intro rfl ?_))⟩
            · rcases hn10 k hk with e | e
              · exact hge2 k e
              · have := hb9.size; omega
            · by_cases e : i = j
              · subst e
                refine ⟨?_, ?_⟩
                · rw [List.getD_eq_getElem?_getD, List.getElem?_append_right (by omega), hsj]; simp [hxl]
                · rw [List.getD_eq_getElem?_getD, List.getElem?_append_right (by omega), ← hz]; simp [hxl]
              · have := hxs i (by omega)
                rw [gapp (by omega), gapp (by omega)]
                exact this
      · have hlt : j = R + 1 := by simp at hc; omega
        subst hlt
        (repeat (first | with_reducible refine W.seq ?_ | with_reducible refine Ops.nil ?_ | with_reducible refine W.region ?_ | refine z_p (kk := ?_) | refine W.exit rfl ?_))
        obtain ⟨g2, cap2, rfl, hc2⟩ := own_at hown2 (by omega)
        have hlen : (tameM ps ws most).length = R + 1 := by rw [tameM_len, hR]
        have hat : ∀ i, i < R + 1 → (tameM ps ws most).getD i ([], 0) = tameN ps ws C i := fun i hi => by rw [tameM_at (by omega), hR, hC]
        refine W.fret rfl ⟨⟨g2, cap2, svs, by rw [hlen]; rfl, fun i hi => ?_, fun i hi => ?_⟩, hL5.bel⟩
        · rw [hlen] at hi
          have := hxs i hi
          rw [hat i hi]
          exact ⟨by rw [hc2 _ (by omega), this.1], by rw [hc2 _ (by omega), this.2]⟩
        · rw [hlen] at hi
          rw [hat i hi]
          have ho := hL5.own i (by omega)
          obtain ⟨A, c, e⟩ := Sl.sl (own_sl (enc := Value.int .i64) (z := (0 : Int)) ho)
          refine ⟨own_sl (z := (0 : Int)) ho, A, c, e, ?_⟩
          have ho2 := ho
          rw [e] at ho2
          exact own_cap ho2
theorem tame_c {w : World} {pv wv : Value} {ps ws : List Int} {most : Nat} (hp : SlI w pv ps) (hw : SlI w wv ws) (h1 : 1 ≤ most) (hm : most ≤ 60) :
    Calls Try.prog 33 #[pv, wv, .int .i64 most] w (Ret fun r w' => TreeM w' r (tameM ps ws most) ∧ Below w.heap.size w w') :=
  (tameA_c hp hw h1 hm).mono fun e w' ⟨v, he, hT, hb⟩ => ⟨v, he, hT.treeM, hb⟩
end Go.Proofs.Ytdiljpnfochndaa
