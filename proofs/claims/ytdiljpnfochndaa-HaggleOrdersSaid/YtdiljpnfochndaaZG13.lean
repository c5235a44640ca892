/- A part of the walk: what this seat's statements share. -/
import Derived.Test.YtdiljpnfochndaaZG12
import Derived.Test.YtdiljpnfochndaaZG7
import Derived.Test.YtdiljpnfochndaaZG11
import Derived.Test.YtdiljpnfochndaaZG4
set_option linter.unusedVariables false
set_option linter.unusedSimpArgs false
set_option linter.unusedSectionVars false
namespace Go.Proofs.Ytdiljpnfochndaa
open Go Go.RowKit Go.Proofs.Ytdiljpnfochndaa.VW
open Go.Proofs.Ytdiljpnfochndaa.HP (Nd kid wor leafB rd evB sg TF kT subT subO SS KK SS_perm SS_len SS_mem SS_uniq kT_snoc ValP)
attribute [local irreducible] W Ops OrdA VW.Ord OrdX
theorem flat_set2 : ∀ (cs : List Value) (xs : List Nd) (p : Nat) (v : Value) (ks : List Int) (x : Int), cs.length = xs.length → p < xs.length → ((flat cs xs).set (p * 2) v).set (p * 2 + 1) (.int .i64 x) = flat (cs.set p v) (xs.set p (ks, x))
  | [], [], _, _, _, _, _, h => by simp at h
  | a :: cs, y :: xs, 0, v, ks, x, _, _ => by simp [flat]
  | a :: cs, y :: xs, p + 1, v, ks, x, h, hp => by
    have := flat_set2 cs xs p v ks x (by simpa using h) (by simpa using hp)
    rw [show (p + 1) * 2 = p * 2 + 1 + 1 by omega]
    simp only [flat, List.set_cons_succ, this]
  | [], _ :: _, _, _, _, _, h, _ => by simp at h
  | _ :: _, [], _, _, _, _, h, _ => by simp at h
/-- A node with its children put in. -/
theorem TQ.put {B : Nat} {w w' : World} {ov pv : Value} {tr : List Nd} {cvs : List Value} {p : Nat} {ps : List Int} {x : Int} (h : TQ B w ov tr cvs) (hp : p < tr.length) (hP : w.ownsRow 0 3 1 pv ps.length (ps.map (Value.int .i64))) (hge : ∀ k, pv.ownBlock = some k → B ≤ k ∧ ¬ outB ov cvs k)
    (ho' : w'.ownsRow 0 47 2 ov tr.length (((flat cvs tr).set (p * 2) pv).set (p * 2 + 1) (.int .i64 x))) (k : Kp (fun i => ov.ownBlock = some i) w w') : TQ B w' ov (tr.set p (ps, x)) (cvs.set p pv) := by
  have hl := h.len
  refine ⟨h.ge, by simp [hl], ?_, fun j hj => ?_, fun j hj i hi => ?_, fun j j' hj hj' hne i hi => ?_⟩
  · rw [flat_set2 _ _ _ _ ps _ hl hp] at ho'
    rw [List.length_set]
    exact ho'
  · rw [List.length_set] at hj
    by_cases e : p = j
    · subst e
      rw [lgetD_set_eq (by omega), ndD_set_eq hp]
      exact own_kp hP k (fun i hi e => (hge i hi).2 (.inl e))
    · rw [lgetD_set_ne e, ndD_set_ne e]
      exact own_kp (h.own j hj) k (fun i hi e2 => (h.sep j hj i hi).2 e2)
  · rw [List.length_set] at hj
    by_cases e : p = j
    · subst e
      rw [lgetD_set_eq (by omega)] at hi
      exact ⟨(hge i hi).1, fun e2 => (hge i hi).2 (.inl e2)⟩
    · rw [lgetD_set_ne e] at hi
      exact h.sep j hj i hi
  · rw [List.length_set] at hj hj'
    by_cases e : p = j
    · subst e
      rw [lgetD_set_eq (by omega)] at hi
      rw [lgetD_set_ne hne]
      exact fun e3 => (hge i hi).2 (.inr ⟨j', by omega, e3⟩)
    · rw [lgetD_set_ne e] at hi
      by_cases e' : p = j'
      · subst e'
        rw [lgetD_set_eq (by omega)]
        exact fun e3 => (hge i e3).2 (.inr ⟨j, by omega, hi⟩)
      · rw [lgetD_set_ne e']
        exact h.two j j' hj hj' hne i hi
theorem outB_put {ov pv : Value} {cvs : List Value} {p : Nat} (hp : p < cvs.length) : ∀ k, outB ov (cvs.set p pv) k → outB ov cvs k ∨ pv.ownBlock = some k := fun k hk => by
  rcases hk with e | ⟨j, hj, e⟩
  · exact .inl (.inl e)
  · rw [List.length_set] at hj
    by_cases e2 : p = j
    · subst e2
      rw [lgetD_set_eq hj] at e
      exact .inr e
    · rw [lgetD_set_ne e2] at e
      exact .inl (.inr ⟨j, hj, e⟩)
def BelC (w0 : World) (tv vv : Value) (l : List Nd) (dep vs : List Int) (N : Nat) : Prop := ∀ (w : World) (i : Nat) (ov : Value) (tr : List Nd) (cvs : List Value), i < l.length → l.length - i ≤ N → Below w0.heap.size w0 w → TQ w0.heap.size w ov tr cvs → tr.length + (subO (SS l dep vs) N i).length ≤ 60 →
  Calls Try.prog 89 #[tv, vv, .int .i64 i, .bool (evB dep i), ov] w (Ret fun r w' => ∃ cvs', Below w0.heap.size w0 w' ∧ TQ w0.heap.size w' r (tr ++ subT (SS l dep vs) l N i tr.length) cvs' ∧ Kp (fun k => outB ov cvs k) w w' ∧ ∀ k, outB r cvs' k → outB ov cvs k ∨ w.heap.size ≤ k)
set_option maxHeartbeats 8000000 in
theorem below_c {w0 : World} {tv vv : Value} {l : List Nd} {dep vs : List Int} (hT : TreeM w0 tv l) (hV : SlI w0 vv vs) (hTF : TF l dep) (hvl : vs.length = l.length) : ∀ N, BelC w0 tv vv l dep vs N := by
  intro N
  induction N with
  | zero =>
    intro w i ov tr cvs hi hN
    omega
  | succ N ih =>
    intro w i ov tr cvs hi hN hbel hO hlen
    have hn60 := hTF.n60
    have hkl := hTF.klen i hi
    have hkf := Go.Proofs.Ytdiljpnfochndaa.HP.kid_few hTF hi
    have hkin := hTF.kin i
    obtain ⟨A, c, rfl⟩ := hO.treeM.sl
    obtain ⟨At, ct, rfl⟩ := hT.sl
    obtain ⟨Av, cv0, rfl⟩ := Sl.sl hV
    simp only [subO, List.length_cons] at hlen
    refine calls_W (vs := [_, _, _, _, _]) Try.func89 rfl (by kernel_rfl) rfl ?_
    (repeat (first | with_reducible refine W.seq ?_ | with_reducible refine Ops.nil ?_ | with_reducible refine W.region ?_ | refine z_p (kk := ?_) | refine z_a (kk := ?_) | refine z_y (kk := ?_) | refine z_n (kk := ?_) | refine z_u (kk := ?_) | with_reducible refine W.skip ?_ | with_reducible refine W.endb ?_ | with_reducible refine W.block ?_ | refine W.exit rfl ?_ | refine z_l (kk := ?_) | refine z_f (kk := ?_) | refine z_M (kk := ?_) | refine z_m (kk := ?_) | refine z_e (kk := ?_) | refine z_E (kk := ?_) | refine z_d (kk := ?_) | refine z_I (kk := fun _ => ?_) | refine z_J (kk := fun _ => ?_) | refine z_K (kk := fun _ => ?_) | refine z_L (kk := fun _ => ?_) | refine z_T (kk := ?_) | refine z_F (kk := ?_) | refine z_k (kk := fun _ _ _ _ _ => ?_) | refine z_w (kk := fun _ _ => ?_) | refine z_s (kk := fun _ _ _ _ => ?_) | refine z_D (kk := ?_) | refine z_g (kk := ?_) | refine z_h (kk := ?_)))
    refine Ops.evG rfl rfl rfl (EV.bldS rfl rfl rfl rfl rfl) ?_
    refine Ops.push2 rfl rfl rfl rfl rfl rfl rfl rfl rfl rfl rfl (fun _ => rfl) rfl rfl hO.row (by omega) (fun lv' p w1 hrow k1 hn1 => ?_)
    have hO1 := hO.push hbel.size hrow k1 hn1
    have hb01 : Below w0.heap.size w0 w1 := Below.put hbel k1 (fun i hi => hO.ge i hi)
    have ho1 := outB_push (cvs := cvs) hn1
    (repeat (first | with_reducible refine W.seq ?_ | with_reducible refine Ops.nil ?_ | with_reducible refine W.region ?_ | refine z_p (kk := ?_) | refine z_a (kk := ?_) | refine z_y (kk := ?_) | refine z_n (kk := ?_) | refine z_u (kk := ?_) | with_reducible refine W.skip ?_ | with_reducible refine W.endb ?_ | with_reducible refine W.block ?_ | refine W.exit rfl ?_ | refine z_l (kk := ?_) | refine z_f (kk := ?_) | refine z_M (kk := ?_) | refine z_m (kk := ?_) | refine z_e (kk := ?_) | refine z_E (kk := ?_) | refine z_d (kk := ?_) | refine z_I (kk := fun _ => ?_) | refine z_J (kk := fun _ => ?_) | refine z_K (kk := fun _ => ?_) | refine z_L (kk := fun _ => ?_) | refine z_T (kk := ?_) | refine z_F (kk := ?_) | refine z_k (kk := fun _ _ _ _ _ => ?_) | refine z_w (kk := fun _ _ => ?_) | refine z_s (kk := fun _ _ _ _ => ?_) | refine z_D (kk := ?_) | refine z_g (kk := ?_) | refine z_h (kk := ?_)))
    refine W.loop (fun m ρ w2 => ∃ (k : Nat) (cv : Value) (cs : List Int), m = (kid l i).length - k ∧ k ≤ (kid l i).length ∧ ρ = [(0, .slice At l.length ct), (1, .slice Av vs.length cv0), (2, .int .i64 i), (3, .bool (evB dep i)), (4, lv'), (11, .int .i64 tr.length), (12, cv), (13, .slice none 0 0), (14, .int .i64 k)] ∧
      OI 3 (Value.int .i64) w0 w2 cv cs ∧ Below w1.heap.size w1 w2 ∧ (∀ b, cv.ownBlock = some b → w1.heap.size ≤ b) ∧ cs.Perm ((kid l i).take k) ∧ cs.Pairwise fun a b => KK l dep vs i a < KK l dep vs i b)
      ⟨_, _, ⟨0, _, [], rfl, Nat.zero_le _, rfl, OI.nil hb01, Below.refl _ _, fun b hb => by simp [Value.ownBlock] at hb, List.Perm.refl _, List.Pairwise.nil⟩, (by repeat (first | exact trivial | refine And.intro rfl ?_))⟩ ?_
    rintro m ρ w2 ⟨k, cv, cs, rfl, hk, rfl, hC, hb12, hcb, hperm, hpw⟩
    have hb02 := hC.bel
    obtain ⟨Ac, cc, rfl⟩ := hC.sh
    (repeat (first | with_reducible refine W.seq ?_ | with_reducible refine Ops.nil ?_ | with_reducible refine W.region ?_ | refine z_p (kk := ?_) | refine z_a (kk := ?_) | refine z_y (kk := ?_) | refine z_n (kk := ?_) | refine z_u (kk := ?_) | with_reducible refine W.skip ?_ | with_reducible refine W.endb ?_ | with_reducible refine W.block ?_ | refine W.exit rfl ?_ | refine z_l (kk := ?_) | refine z_f (kk := ?_) | refine z_M (kk := ?_) | refine z_m (kk := ?_) | refine z_e (kk := ?_) | refine z_E (kk := ?_) | refine z_d (kk := ?_) | refine z_I (kk := fun _ => ?_) | refine z_J (kk := fun _ => ?_) | refine z_K (kk := fun _ => ?_) | refine z_L (kk := fun _ => ?_) | refine z_T (kk := ?_) | refine z_F (kk := ?_) | refine z_k (kk := fun _ _ _ _ _ => ?_) | refine z_w (kk := fun _ _ => ?_) | refine z_s (kk := fun _ _ _ _ => ?_) | refine z_D (kk := ?_) | refine z_g (kk := ?_) | refine z_h (kk := ?_)))
    (first | refine W.condD rfl (fun hc => ?_) (fun hc => ?_) | refine W.condE rfl (fun hc => ?_) (fun hc => ?_) | refine W.condN rfl (fun hc => ?_) (fun hc => ?_) | refine W.cond rfl (fun hc => ?_) (fun hc => ?_))
    · have hkk : k < (kid l i).length := by omega
      have hkk2 := hkin k hi hkk
      simp only [Go.Proofs.Ytdiljpnfochndaa.HP.k_] at hkk2
      (repeat (first | with_reducible refine W.seq ?_ | with_reducible refine Ops.nil ?_ | with_reducible refine W.region ?_ | refine z_p (kk := ?_) | refine z_a (kk := ?_) | refine z_y (kk := ?_) | refine z_n (kk := ?_) | refine z_u (kk := ?_) | with_reducible refine W.skip ?_ | with_reducible refine W.endb ?_ | with_reducible refine W.block ?_ | refine W.exit rfl ?_ | refine z_l (kk := ?_) | refine z_f (kk := ?_) | refine z_M (kk := ?_) | refine z_m (kk := ?_) | refine z_e (kk := ?_) | refine z_E (kk := ?_) | refine z_d (kk := ?_) | refine z_I (kk := fun _ => ?_) | refine z_J (kk := fun _ => ?_) | refine z_K (kk := fun _ => ?_) | refine z_L (kk := fun _ => ?_) | refine z_T (kk := ?_) | refine z_F (kk := ?_) | refine z_k (kk := fun _ _ _ _ _ => ?_) | refine z_w (kk := fun _ _ => ?_) | refine z_s (kk := fun _ _ _ _ => ?_) | refine z_D (kk := ?_) | refine z_g (kk := ?_) | refine z_h (kk := ?_)))
      have hks := fun {p q : Nat} => Go.Proofs.Ytdiljpnfochndaa.HP.KK_lt (p := p) (q := q) hTF vs hi
      have hlt' : ∀ x : Nat, x < cs.length → ∃ p : Nat, p < k ∧ cs.getD x 0 = (kid l i).getD p 0 := fun x hx => by
        have hm : cs.getD x 0 ∈ (kid l i).take k := hperm.mem_iff.1 (Go.Proofs.Ytdiljpnfochndaa.HP.getD_mem hx)
        obtain ⟨p, hp, e⟩ := List.mem_iff_getElem.1 hm
        rw [List.length_take] at hp
        refine ⟨p, by omega, ?_⟩
        rw [← e, List.getElem_take]
        simp [List.getD_eq_getElem?_getD, show p < (kid l i).length by omega]
      have hcl : cs.length ≤ k := by have := hperm.length_eq; rw [List.length_take] at this; omega
      refine W.loop (fun m ρ w3 => ∃ (j : Nat), m = cs.length - j ∧ j ≤ cs.length ∧ ρ = [(0, .slice At l.length ct), (1, .slice Av vs.length cv0), (2, .int .i64 i), (3, .bool (evB dep i)), (4, lv'), (11, .int .i64 tr.length), (12, .slice Ac cs.length cc), (13, .slice none 0 0), (14, .int .i64 k), (15, .int .i64 ((kid l i).getD k 0)), (16, .int .i64 j)] ∧
        Below w2.heap.size w2 w3 ∧ ∀ x : Nat, x < j → KK l dep vs i (cs.getD x 0) < KK l dep vs i ((kid l i).getD k 0))
        ⟨_, _, ⟨0, rfl, Nat.zero_le _, rfl, Below.refl _ _, fun x hx => by omega⟩, (by repeat (first | exact trivial | refine And.intro rfl ?_))⟩ ?_
      rintro m ρ w3 ⟨j, rfl, hj, rfl, hb23, hlo⟩
      have hC3 := hC.below hb23
      have hb03 := hC3.bel
      have hsl : SlI w3 (.slice Ac cs.length cc) cs := hC3.sl
      by_cases hjl : j < cs.length
      · obtain ⟨p, hp, ep⟩ := hlt' j hjl
        have hpk := hkin p hi (by omega)
        simp only [Go.Proofs.Ytdiljpnfochndaa.HP.k_] at hpk
        rw [← ep] at hpk
        have hcmp := hks hp hkk
        rw [← ep] at hcmp
        have hcont : sg dep i * (rd vs ((kid l i).getD k 0) - rd vs (cs.getD j 0)) ≥ 0 → ∀ x : Nat, x < j + 1 → KK l dep vs i (cs.getD x 0) < KK l dep vs i ((kid l i).getD k 0) := fun h x hx => by
          by_cases e : x = j
          · subst e
            have h1 := hcmp.1
            have h2 := hcmp.2
            omega
          · exact hlo x (by omega)
        have hstop : sg dep i * (rd vs ((kid l i).getD k 0) - rd vs (cs.getD j 0)) < 0 → KK l dep vs i ((kid l i).getD k 0) < KK l dep vs i (cs.getD j 0) := fun h => hcmp.1.1 h
        by_cases heq : vs.getD (cs.getD j 0).toNat 0 = vs.getD ((kid l i).getD k 0).toNat 0
        · (repeat (first | with_reducible refine W.seq ?_ | with_reducible refine Ops.nil ?_ | with_reducible refine W.region ?_ | refine z_p (kk := ?_) | refine z_a (kk := ?_) | refine z_y (kk := ?_) | refine z_n (kk := ?_) | refine z_u (kk := ?_) | with_reducible refine W.skip ?_ | with_reducible refine W.endb ?_ | with_reducible refine W.block ?_ | refine W.exit rfl ?_ | refine z_l (kk := ?_) | refine z_f (kk := ?_) | refine z_M (kk := ?_) | refine z_m (kk := ?_) | refine z_e (kk := ?_) | refine z_E (kk := ?_) | refine z_d (kk := ?_) | refine z_I (kk := fun _ => ?_) | refine z_J (kk := fun _ => ?_) | refine z_K (kk := fun _ => ?_) | refine z_L (kk := fun _ => ?_) | refine z_T (kk := ?_) | refine z_F (kk := ?_) | refine z_k (kk := fun _ _ _ _ _ => ?_) | refine z_w (kk := fun _ _ => ?_) | refine z_s (kk := fun _ _ _ _ => ?_) | refine z_D (kk := ?_) | refine z_g (kk := ?_) | refine z_h (kk := ?_)))
          refine W.ordA 99 [(0, 1), (1, 1), (2, 1), (3, 1), (4, 1), (5, 1), (6, 1), (7, 1), (8, 1), (9, 2), (10, 1), (11, 2), (12, 1), (13, 1), (14, 1), (15, 2), (16, 1), (17, 1), (18, 1), (19, 1), (20, 1), (21, 1), (22, 2), (23, 1), (24, 2), (25, 1), (26, 1), (27, 1), (28, 2), (29, 1), (30, 1), (31, 1), (32, 1), (33, 1)] rfl (by kernel_rfl) rfl (by kernel_rfl) (fun _ _ _ h => h) ?_
          (repeat (first | refine x_p (kk := ?_) | refine x_n (kk := ?_) | refine x_a (kk := ?_) | refine x_l (kk := ?_) | refine x_M (kk := ?_) | refine x_m (kk := ?_) | refine x_e (kk := ?_) | refine x_E (kk := ?_) | refine x_T (kk := ?_) | refine x_F (kk := ?_) | refine x_I (kk := fun _ => ?_) | refine x_J (kk := fun _ => ?_) | refine x_K (kk := fun _ => ?_) | refine x_L (kk := fun _ => ?_) | refine x_k (kk := fun _ _ _ _ _ => ?_) | refine x_w (kk := fun _ _ => ?_) | refine x_s (kk := fun _ _ _ _ => ?_) | refine x_t (kk := ?_) | refine x_f (kk := ?_)))
          refine OrdA.nil (fun w4 hb4 => ?_)
          (repeat (first | with_reducible refine W.seq ?_ | with_reducible refine Ops.nil ?_ | with_reducible refine W.region ?_ | refine z_p (kk := ?_) | refine z_a (kk := ?_) | refine z_y (kk := ?_) | refine z_n (kk := ?_) | refine z_u (kk := ?_) | with_reducible refine W.skip ?_ | with_reducible refine W.endb ?_ | with_reducible refine W.block ?_ | refine W.exit rfl ?_ | refine z_l (kk := ?_) | refine z_f (kk := ?_) | refine z_M (kk := ?_) | refine z_m (kk := ?_) | refine z_e (kk := ?_) | refine z_E (kk := ?_) | refine z_d (kk := ?_) | refine z_I (kk := fun _ => ?_) | refine z_J (kk := fun _ => ?_) | refine z_K (kk := fun _ => ?_) | refine z_L (kk := fun _ => ?_) | refine z_T (kk := ?_) | refine z_F (kk := ?_) | refine z_k (kk := fun _ _ _ _ _ => ?_) | refine z_w (kk := fun _ _ => ?_) | refine z_s (kk := fun _ _ _ _ => ?_) | refine z_D (kk := ?_) | refine z_g (kk := ?_) | refine z_h (kk := ?_)))
          refine W.condT rfl (by first | rfl | assumption | (simp only [bnf] <;> omega) | (simp only [*, bnf]; done) | fail) ?_
          (repeat (first | with_reducible refine W.seq ?_ | with_reducible refine Ops.nil ?_ | with_reducible refine W.region ?_ | refine z_p (kk := ?_) | refine z_a (kk := ?_) | refine z_y (kk := ?_) | refine z_n (kk := ?_) | refine z_u (kk := ?_) | with_reducible refine W.skip ?_ | with_reducible refine W.endb ?_ | with_reducible refine W.block ?_ | refine W.exit rfl ?_ | refine z_l (kk := ?_) | refine z_f (kk := ?_) | refine z_M (kk := ?_) | refine z_m (kk := ?_) | refine z_e (kk := ?_) | refine z_E (kk := ?_) | refine z_d (kk := ?_) | refine z_I (kk := fun _ => ?_) | refine z_J (kk := fun _ => ?_) | refine z_K (kk := fun _ => ?_) | refine z_L (kk := fun _ => ?_) | refine z_T (kk := ?_) | refine z_F (kk := ?_) | refine z_k (kk := fun _ _ _ _ _ => ?_) | refine z_w (kk := fun _ _ => ?_) | refine z_s (kk := fun _ _ _ _ => ?_) | refine z_D (kk := ?_) | refine z_g (kk := ?_) | refine z_h (kk := ?_)))
          exact W.endl ⟨_, _, ⟨⟨j + 1, rfl, by omega, rfl, Below.via hb23 hb4, hcont (by simp only [rd]; rw [heq, Int.sub_self, Int.mul_zero]; omega)⟩, by omega⟩, (by repeat (first | exact trivial | refine And.intro rfl ?_))⟩
        · (repeat (first | with_reducible refine W.seq ?_ | with_reducible refine Ops.nil ?_ | with_reducible refine W.region ?_ | refine z_p (kk := ?_) | refine z_a (kk := ?_) | refine z_y (kk := ?_) | refine z_n (kk := ?_) | refine z_u (kk := ?_) | with_reducible refine W.skip ?_ | with_reducible refine W.endb ?_ | with_reducible refine W.block ?_ | refine W.exit rfl ?_ | refine z_l (kk := ?_) | refine z_f (kk := ?_) | refine z_M (kk := ?_) | refine z_m (kk := ?_) | refine z_e (kk := ?_) | refine z_E (kk := ?_) | refine z_d (kk := ?_) | refine z_I (kk := fun _ => ?_) | refine z_J (kk := fun _ => ?_) | refine z_K (kk := fun _ => ?_) | refine z_L (kk := fun _ => ?_) | refine z_T (kk := ?_) | refine z_F (kk := ?_) | refine z_k (kk := fun _ _ _ _ _ => ?_) | refine z_w (kk := fun _ _ => ?_) | refine z_s (kk := fun _ _ _ _ => ?_) | refine z_D (kk := ?_) | refine z_g (kk := ?_) | refine z_h (kk := ?_)))
          refine W.ordA 99 [(0, 1), (1, 1), (2, 1), (3, 1), (4, 1), (5, 1), (6, 1), (7, 1), (8, 1), (9, 2), (10, 1), (11, 2), (12, 1), (13, 1), (14, 1), (15, 2), (16, 1), (17, 1), (18, 1), (19, 1), (20, 1), (21, 1), (22, 2), (23, 1), (24, 2), (25, 1), (26, 1), (27, 1), (28, 2), (29, 1), (30, 1), (31, 1), (32, 1), (33, 1)] rfl (by kernel_rfl) rfl (by kernel_rfl) (fun _ _ _ h => h) ?_
          (repeat (first | refine x_p (kk := ?_) | refine x_n (kk := ?_) | refine x_a (kk := ?_) | refine x_l (kk := ?_) | refine x_M (kk := ?_) | refine x_m (kk := ?_) | refine x_e (kk := ?_) | refine x_E (kk := ?_) | refine x_T (kk := ?_) | refine x_F (kk := ?_) | refine x_I (kk := fun _ => ?_) | refine x_J (kk := fun _ => ?_) | refine x_K (kk := fun _ => ?_) | refine x_L (kk := fun _ => ?_) | refine x_k (kk := fun _ _ _ _ _ => ?_) | refine x_w (kk := fun _ _ => ?_) | refine x_s (kk := fun _ _ _ _ => ?_) | refine x_t (kk := ?_) | refine x_f (kk := ?_)))
          refine OrdA.nil (fun w4 hb4 => ?_)
          have hC4 := hC3.below hb4
          (repeat (first | with_reducible refine W.seq ?_ | with_reducible refine Ops.nil ?_ | with_reducible refine W.region ?_ | refine z_p (kk := ?_) | refine z_a (kk := ?_) | refine z_y (kk := ?_) | refine z_n (kk := ?_) | refine z_u (kk := ?_) | with_reducible refine W.skip ?_ | with_reducible refine W.endb ?_ | with_reducible refine W.block ?_ | refine W.exit rfl ?_ | refine z_l (kk := ?_) | refine z_f (kk := ?_) | refine z_M (kk := ?_) | refine z_m (kk := ?_) | refine z_e (kk := ?_) | refine z_E (kk := ?_) | refine z_d (kk := ?_) | refine z_I (kk := fun _ => ?_) | refine z_J (kk := fun _ => ?_) | refine z_K (kk := fun _ => ?_) | refine z_L (kk := fun _ => ?_) | refine z_T (kk := ?_) | refine z_F (kk := ?_) | refine z_k (kk := fun _ _ _ _ _ => ?_) | refine z_w (kk := fun _ _ => ?_) | refine z_s (kk := fun _ _ _ _ => ?_) | refine z_D (kk := ?_) | refine z_g (kk := ?_) | refine z_h (kk := ?_)))
          refine W.cond rfl (fun hc2 => ?_) (fun hc2 => ?_)
          · (repeat (first | with_reducible refine W.seq ?_ | with_reducible refine Ops.nil ?_ | with_reducible refine W.region ?_ | refine z_p (kk := ?_) | refine z_a (kk := ?_) | refine z_y (kk := ?_) | refine z_n (kk := ?_) | refine z_u (kk := ?_) | with_reducible refine W.skip ?_ | with_reducible refine W.endb ?_ | with_reducible refine W.block ?_ | refine W.exit rfl ?_ | refine z_l (kk := ?_) | refine z_f (kk := ?_) | refine z_M (kk := ?_) | refine z_m (kk := ?_) | refine z_e (kk := ?_) | refine z_E (kk := ?_) | refine z_d (kk := ?_) | refine z_I (kk := fun _ => ?_) | refine z_J (kk := fun _ => ?_) | refine z_K (kk := fun _ => ?_) | refine z_L (kk := fun _ => ?_) | refine z_T (kk := ?_) | refine z_F (kk := ?_) | refine z_k (kk := fun _ _ _ _ _ => ?_) | refine z_w (kk := fun _ _ => ?_) | refine z_s (kk := fun _ _ _ _ => ?_) | refine z_D (kk := ?_) | refine z_g (kk := ?_) | refine z_h (kk := ?_)))
            exact W.endl ⟨_, _, ⟨⟨j + 1, rfl, by omega, rfl, Below.via hb23 hb4, hcont (by
              simp only [rd, sg]
              generalize vs.getD (cs.getD j 0).toNat 0 = v1 at *
              generalize vs.getD ((kid l i).getD k 0).toNat 0 = v2 at *
              cases he : evB dep i <;> rw [he] at hc2 <;> simp at hc2 ⊢ <;> omega)⟩, by omega⟩, (by repeat (first | exact trivial | refine And.intro rfl ?_))⟩
          · have hst := hstop (by
              simp only [rd, sg]
              generalize vs.getD (cs.getD j 0).toNat 0 = v1 at *
              generalize vs.getD ((kid l i).getD k 0).toNat 0 = v2 at *
              cases he : evB dep i <;> rw [he] at hc2 <;> simp at hc2 ⊢ <;> omega)
            have hcap := own_cap hC4.own
            (repeat (first | with_reducible refine W.seq ?_ | with_reducible refine Ops.nil ?_ | with_reducible refine W.region ?_ | refine z_p (kk := ?_) | refine z_a (kk := ?_) | refine z_y (kk := ?_) | refine z_n (kk := ?_) | refine z_u (kk := ?_) | with_reducible refine W.skip ?_ | with_reducible refine W.endb ?_ | with_reducible refine W.block ?_ | refine W.exit rfl ?_ | refine z_l (kk := ?_) | refine z_f (kk := ?_) | refine z_M (kk := ?_) | refine z_m (kk := ?_) | refine z_e (kk := ?_) | refine z_E (kk := ?_) | refine z_d (kk := ?_) | refine z_I (kk := fun _ => ?_) | refine z_J (kk := fun _ => ?_) | refine z_K (kk := fun _ => ?_) | refine z_L (kk := fun _ => ?_) | refine z_T (kk := ?_) | refine z_F (kk := ?_) | refine z_k (kk := fun _ _ _ _ _ => ?_) | refine z_w (kk := fun _ _ => ?_) | refine z_s (kk := fun _ _ _ _ => ?_) | refine z_D (kk := ?_) | refine z_g (kk := ?_) | refine z_h (kk := ?_)))
            refine Ops.slH rfl rfl rfl rfl rfl rfl rfl (by omega) (by omega) ?_
            rw [Int.toNat_natCast]
            refine Ops.appO (enc := Value.int .i64) 0 rfl rfl rfl rfl rfl rfl rfl rfl rfl rfl (OI.nil hC4.bel) (sl_take hC4.sl j hj) (Below.refl _ _) (fun _ => rfl) (by simp only [List.length_take, List.length_nil]; omega) (fun v5 w5 hO5 k5 hn5 => ?_)
            have hb45 : Below w4.heap.size w4 w5 := Below.put (Below.refl _ _) k5 (fun i hi => by simp [Value.ownBlock] at hi)
            rw [List.nil_append] at hO5
            (repeat (first | with_reducible refine W.seq ?_ | with_reducible refine Ops.nil ?_ | with_reducible refine W.region ?_ | refine z_p (kk := ?_) | refine z_a (kk := ?_) | refine z_y (kk := ?_) | refine z_n (kk := ?_) | refine z_u (kk := ?_) | with_reducible refine W.skip ?_ | with_reducible refine W.endb ?_ | with_reducible refine W.block ?_ | refine W.exit rfl ?_ | refine z_l (kk := ?_) | refine z_f (kk := ?_) | refine z_M (kk := ?_) | refine z_m (kk := ?_) | refine z_e (kk := ?_) | refine z_E (kk := ?_) | refine z_d (kk := ?_) | refine z_I (kk := fun _ => ?_) | refine z_J (kk := fun _ => ?_) | refine z_K (kk := fun _ => ?_) | refine z_L (kk := fun _ => ?_) | refine z_T (kk := ?_) | refine z_F (kk := ?_) | refine z_k (kk := fun _ _ _ _ _ => ?_) | refine z_w (kk := fun _ _ => ?_) | refine z_s (kk := fun _ _ _ _ => ?_) | refine z_D (kk := ?_) | refine z_g (kk := ?_) | refine z_h (kk := ?_)))
            refine Ops.pushO (enc := Value.int .i64) rfl rfl rfl rfl rfl rfl rfl rfl rfl rfl rfl rfl (fun _ => rfl) rfl hO5 (by simp only [List.length_take]; omega) (fun v6 _ w6 hO6 k6 hn6 => ?_)
            have hs5 := hb45.size
            have hn5' : ∀ b, v5.ownBlock = some b → w4.heap.size ≤ b := fun b hb => by
              rcases hn5 b hb with h | h
              · simp [Value.ownBlock] at h
              · exact h
            have hb46 : Below w4.heap.size w4 w6 := Below.put hb45 k6 (fun i hi => hn5' i hi)
            have hC6 := hC4.below hb46
            have hs6 := hb46.size
            have hn6' : ∀ b, v6.ownBlock = some b → w4.heap.size ≤ b := fun b hb => by
              rcases hn6 b hb with h | h
              · exact hn5' b h
              · omega
            (repeat (first | with_reducible refine W.seq ?_ | with_reducible refine Ops.nil ?_ | with_reducible refine W.region ?_ | refine z_p (kk := ?_) | refine z_a (kk := ?_) | refine z_y (kk := ?_) | refine z_n (kk := ?_) | refine z_u (kk := ?_) | with_reducible refine W.skip ?_ | with_reducible refine W.endb ?_ | with_reducible refine W.block ?_ | refine W.exit rfl ?_ | refine z_l (kk := ?_) | refine z_f (kk := ?_) | refine z_M (kk := ?_) | refine z_m (kk := ?_) | refine z_e (kk := ?_) | refine z_E (kk := ?_) | refine z_d (kk := ?_) | refine z_I (kk := fun _ => ?_) | refine z_J (kk := fun _ => ?_) | refine z_K (kk := fun _ => ?_) | refine z_L (kk := fun _ => ?_) | refine z_T (kk := ?_) | refine z_F (kk := ?_) | refine z_k (kk := fun _ _ _ _ _ => ?_) | refine z_w (kk := fun _ _ => ?_) | refine z_s (kk := fun _ _ _ _ => ?_) | refine z_D (kk := ?_) | refine z_g (kk := ?_) | refine z_h (kk := ?_)))
            refine Ops.slL rfl rfl rfl rfl rfl rfl rfl (by omega) (by omega) hcap (fun A' c' hA' => ?_)
            rw [Int.toNat_natCast] at hA' ⊢
            refine Ops.appO (enc := Value.int .i64) 0 rfl rfl rfl rfl rfl rfl rfl rfl rfl rfl hO6 (sl_drop (c' := c') hC6.sl hA') (Below.refl _ _) (fun _ => rfl) (by simp only [List.length_append, List.length_take, List.length_drop, List.length_cons, List.length_nil]; omega) (fun v7 w7 hO7 k7 hn7 => ?_)
            have hb47 : Below w4.heap.size w4 w7 := Below.put hb46 k7 (fun i hi => hn6' i hi)
            have hb24 : Below w2.heap.size w2 w4 := Below.via hb23 hb4
            have hs24 := hb24.size
            have hs12 := hb12.size
            (repeat (first | with_reducible refine W.seq ?_ | with_reducible refine Ops.nil ?_ | with_reducible refine W.region ?_ | refine z_p (kk := ?_) | refine z_a (kk := ?_) | refine z_y (kk := ?_) | refine z_n (kk := ?_) | refine z_u (kk := ?_) | with_reducible refine W.skip ?_ | with_reducible refine W.endb ?_ | with_reducible refine W.block ?_ | refine W.exit rfl ?_ | refine z_l (kk := ?_) | refine z_f (kk := ?_) | refine z_M (kk := ?_) | refine z_m (kk := ?_) | refine z_e (kk := ?_) | refine z_E (kk := ?_) | refine z_d (kk := ?_) | refine z_I (kk := fun _ => ?_) | refine z_J (kk := fun _ => ?_) | refine z_K (kk := fun _ => ?_) | refine z_L (kk := fun _ => ?_) | refine z_T (kk := ?_) | refine z_F (kk := ?_) | refine z_k (kk := fun _ _ _ _ _ => ?_) | refine z_w (kk := fun _ _ => ?_) | refine z_s (kk := fun _ _ _ _ => ?_) | refine z_D (kk := ?_) | refine z_g (kk := ?_) | refine z_h (kk := ?_)))
            refine W.endl ⟨_, _, ⟨⟨k + 1, _, _, rfl, by omega, rfl, hO7, Below.via hb12 (Below.via hb24 hb47), fun b hb => ?_, ?_, Go.Proofs.Ytdiljpnfochndaa.HP.ins_pw hpw hj hlo (.inr hst)⟩, by omega⟩, (by repeat (first | exact trivial | refine And.intro rfl ?_))⟩
            · rcases hn7 b hb with h | h
              · have := hn6' b h; omega
              · omega
            · rw [Go.Proofs.Ytdiljpnfochndaa.HP.take_snoc _ _ hkk]
              exact Go.Proofs.Ytdiljpnfochndaa.HP.ins_perm.trans (hperm.append_right _)
      · have hjl' : j = cs.length := by omega
        (repeat (first | with_reducible refine W.seq ?_ | with_reducible refine Ops.nil ?_ | with_reducible refine W.region ?_ | refine z_p (kk := ?_) | refine z_a (kk := ?_) | refine z_y (kk := ?_) | refine z_n (kk := ?_) | refine z_u (kk := ?_) | with_reducible refine W.skip ?_ | with_reducible refine W.endb ?_ | with_reducible refine W.block ?_ | refine W.exit rfl ?_ | refine z_l (kk := ?_) | refine z_f (kk := ?_) | refine z_M (kk := ?_) | refine z_m (kk := ?_) | refine z_e (kk := ?_) | refine z_E (kk := ?_) | refine z_d (kk := ?_) | refine z_I (kk := fun _ => ?_) | refine z_J (kk := fun _ => ?_) | refine z_K (kk := fun _ => ?_) | refine z_L (kk := fun _ => ?_) | refine z_T (kk := ?_) | refine z_F (kk := ?_) | refine z_k (kk := fun _ _ _ _ _ => ?_) | refine z_w (kk := fun _ _ => ?_) | refine z_s (kk := fun _ _ _ _ => ?_) | refine z_D (kk := ?_) | refine z_g (kk := ?_) | refine z_h (kk := ?_)))
        refine W.ordA 99 [(0, 1), (1, 1), (2, 1), (3, 1), (4, 1), (5, 1), (6, 1), (7, 1), (8, 1), (9, 2), (10, 1), (11, 2), (12, 1), (13, 1), (14, 1), (15, 2), (16, 1), (17, 1), (18, 1), (19, 1), (20, 1), (21, 1), (22, 2), (23, 1), (24, 2), (25, 1), (26, 1), (27, 1), (28, 2), (29, 1), (30, 1), (31, 1), (32, 1), (33, 1)] rfl (by kernel_rfl) rfl (by kernel_rfl) (fun _ _ _ h => h) ?_
        (repeat (first | refine x_p (kk := ?_) | refine x_n (kk := ?_) | refine x_a (kk := ?_) | refine x_l (kk := ?_) | refine x_M (kk := ?_) | refine x_m (kk := ?_) | refine x_e (kk := ?_) | refine x_E (kk := ?_) | refine x_T (kk := ?_) | refine x_F (kk := ?_) | refine x_I (kk := fun _ => ?_) | refine x_J (kk := fun _ => ?_) | refine x_K (kk := fun _ => ?_) | refine x_L (kk := fun _ => ?_) | refine x_k (kk := fun _ _ _ _ _ => ?_) | refine x_w (kk := fun _ _ => ?_) | refine x_s (kk := fun _ _ _ _ => ?_) | refine x_t (kk := ?_) | refine x_f (kk := ?_)))
        refine OrdA.nil (fun w4 hb4 => ?_)
        have hC4 := hC3.below hb4
        (repeat (first | with_reducible refine W.seq ?_ | with_reducible refine Ops.nil ?_ | with_reducible refine W.region ?_ | refine z_p (kk := ?_) | refine z_a (kk := ?_) | refine z_y (kk := ?_) | refine z_n (kk := ?_) | refine z_u (kk := ?_) | with_reducible refine W.skip ?_ | with_reducible refine W.endb ?_ | with_reducible refine W.block ?_ | refine W.exit rfl ?_ | refine z_l (kk := ?_) | refine z_f (kk := ?_) | refine z_M (kk := ?_) | refine z_m (kk := ?_) | refine z_e (kk := ?_) | refine z_E (kk := ?_) | refine z_d (kk := ?_) | refine z_I (kk := fun _ => ?_) | refine z_J (kk := fun _ => ?_) | refine z_K (kk := fun _ => ?_) | refine z_L (kk := fun _ => ?_) | refine z_T (kk := ?_) | refine z_F (kk := ?_) | refine z_k (kk := fun _ _ _ _ _ => ?_) | refine z_w (kk := fun _ _ => ?_) | refine z_s (kk := fun _ _ _ _ => ?_) | refine z_D (kk := ?_) | refine z_g (kk := ?_) | refine z_h (kk := ?_)))
        refine W.condF rfl (by first | rfl | assumption | (simp only [bnf] <;> omega) | (simp only [*, bnf]; done) | fail) ?_
        have hcap := own_cap hC4.own
        (repeat (first | with_reducible refine W.seq ?_ | with_reducible refine Ops.nil ?_ | with_reducible refine W.region ?_ | refine z_p (kk := ?_) | refine z_a (kk := ?_) | refine z_y (kk := ?_) | refine z_n (kk := ?_) | refine z_u (kk := ?_) | with_reducible refine W.skip ?_ | with_reducible refine W.endb ?_ | with_reducible refine W.block ?_ | refine W.exit rfl ?_ | refine z_l (kk := ?_) | refine z_f (kk := ?_) | refine z_M (kk := ?_) | refine z_m (kk := ?_) | refine z_e (kk := ?_) | refine z_E (kk := ?_) | refine z_d (kk := ?_) | refine z_I (kk := fun _ => ?_) | refine z_J (kk := fun _ => ?_) | refine z_K (kk := fun _ => ?_) | refine z_L (kk := fun _ => ?_) | refine z_T (kk := ?_) | refine z_F (kk := ?_) | refine z_k (kk := fun _ _ _ _ _ => ?_) | refine z_w (kk := fun _ _ => ?_) | refine z_s (kk := fun _ _ _ _ => ?_) | refine z_D (kk := ?_) | refine z_g (kk := ?_) | refine z_h (kk := ?_)))
        refine Ops.slH rfl rfl rfl rfl rfl rfl rfl (by omega) (by omega) ?_
        rw [Int.toNat_natCast]
        refine Ops.appO (enc := Value.int .i64) 0 rfl rfl rfl rfl rfl rfl rfl rfl rfl rfl (OI.nil hC4.bel) (sl_take hC4.sl j hj) (Below.refl _ _) (fun _ => rfl) (by simp only [List.length_take, List.length_nil]; omega) (fun v5 w5 hO5 k5 hn5 => ?_)
        have hb45 : Below w4.heap.size w4 w5 := Below.put (Below.refl _ _) k5 (fun i hi => by simp [Value.ownBlock] at hi)
        rw [List.nil_append] at hO5
        (repeat (first | with_reducible refine W.seq ?_ | with_reducible refine Ops.nil ?_ | with_reducible refine W.region ?_ | refine z_p (kk := ?_) | refine z_a (kk := ?_) | refine z_y (kk := ?_) | refine z_n (kk := ?_) | refine z_u (kk := ?_) | with_reducible refine W.skip ?_ | with_reducible refine W.endb ?_ | with_reducible refine W.block ?_ | refine W.exit rfl ?_ | refine z_l (kk := ?_) | refine z_f (kk := ?_) | refine z_M (kk := ?_) | refine z_m (kk := ?_) | refine z_e (kk := ?_) | refine z_E (kk := ?_) | refine z_d (kk := ?_) | refine z_I (kk := fun _ => ?_) | refine z_J (kk := fun _ => ?_) | refine z_K (kk := fun _ => ?_) | refine z_L (kk := fun _ => ?_) | refine z_T (kk := ?_) | refine z_F (kk := ?_) | refine z_k (kk := fun _ _ _ _ _ => ?_) | refine z_w (kk := fun _ _ => ?_) | refine z_s (kk := fun _ _ _ _ => ?_) | refine z_D (kk := ?_) | refine z_g (kk := ?_) | refine z_h (kk := ?_)))
        refine Ops.pushO (enc := Value.int .i64) rfl rfl rfl rfl rfl rfl rfl rfl rfl rfl rfl rfl (fun _ => rfl) rfl hO5 (by simp only [List.length_take]; omega) (fun v6 _ w6 hO6 k6 hn6 => ?_)
        have hs5 := hb45.size
        have hn5' : ∀ b, v5.ownBlock = some b → w4.heap.size ≤ b := fun b hb => by
          rcases hn5 b hb with h | h
          · simp [Value.ownBlock] at h
          · exact h
        have hb46 : Below w4.heap.size w4 w6 := Below.put hb45 k6 (fun i hi => hn5' i hi)
        have hC6 := hC4.below hb46
        have hs6 := hb46.size
        have hn6' : ∀ b, v6.ownBlock = some b → w4.heap.size ≤ b := fun b hb => by
          rcases hn6 b hb with h | h
          · exact hn5' b h
          · omega
        (repeat (first | with_reducible refine W.seq ?_ | with_reducible refine Ops.nil ?_ | with_reducible refine W.region ?_ | refine z_p (kk := ?_) | refine z_a (kk := ?_) | refine z_y (kk := ?_) | refine z_n (kk := ?_) | refine z_u (kk := ?_) | with_reducible refine W.skip ?_ | with_reducible refine W.endb ?_ | with_reducible refine W.block ?_ | refine W.exit rfl ?_ | refine z_l (kk := ?_) | refine z_f (kk := ?_) | refine z_M (kk := ?_) | refine z_m (kk := ?_) | refine z_e (kk := ?_) | refine z_E (kk := ?_) | refine z_d (kk := ?_) | refine z_I (kk := fun _ => ?_) | refine z_J (kk := fun _ => ?_) | refine z_K (kk := fun _ => ?_) | refine z_L (kk := fun _ => ?_) | refine z_T (kk := ?_) | refine z_F (kk := ?_) | refine z_k (kk := fun _ _ _ _ _ => ?_) | refine z_w (kk := fun _ _ => ?_) | refine z_s (kk := fun _ _ _ _ => ?_) | refine z_D (kk := ?_) | refine z_g (kk := ?_) | refine z_h (kk := ?_)))
        refine Ops.slL rfl rfl rfl rfl rfl rfl rfl (by omega) (by omega) hcap (fun A' c' hA' => ?_)
        rw [Int.toNat_natCast] at hA' ⊢
        refine Ops.appO (enc := Value.int .i64) 0 rfl rfl rfl rfl rfl rfl rfl rfl rfl rfl hO6 (sl_drop (c' := c') hC6.sl hA') (Below.refl _ _) (fun _ => rfl) (by simp only [List.length_append, List.length_take, List.length_drop, List.length_cons, List.length_nil]; omega) (fun v7 w7 hO7 k7 hn7 => ?_)
        have hb47 : Below w4.heap.size w4 w7 := Below.put hb46 k7 (fun i hi => hn6' i hi)
        have hb24 : Below w2.heap.size w2 w4 := Below.via hb23 hb4
        have hs24 := hb24.size
        have hs12 := hb12.size
        (repeat (first | with_reducible refine W.seq ?_ | with_reducible refine Ops.nil ?_ | with_reducible refine W.region ?_ | refine z_p (kk := ?_) | refine z_a (kk := ?_) | refine z_y (kk := ?_) | refine z_n (kk := ?_) | refine z_u (kk := ?_) | with_reducible refine W.skip ?_ | with_reducible refine W.endb ?_ | with_reducible refine W.block ?_ | refine W.exit rfl ?_ | refine z_l (kk := ?_) | refine z_f (kk := ?_) | refine z_M (kk := ?_) | refine z_m (kk := ?_) | refine z_e (kk := ?_) | refine z_E (kk := ?_) | refine z_d (kk := ?_) | refine z_I (kk := fun _ => ?_) | refine z_J (kk := fun _ => ?_) | refine z_K (kk := fun _ => ?_) | refine z_L (kk := fun _ => ?_) | refine z_T (kk := ?_) | refine z_F (kk := ?_) | refine z_k (kk := fun _ _ _ _ _ => ?_) | refine z_w (kk := fun _ _ => ?_) | refine z_s (kk := fun _ _ _ _ => ?_) | refine z_D (kk := ?_) | refine z_g (kk := ?_) | refine z_h (kk := ?_)))
        refine W.endl ⟨_, _, ⟨⟨k + 1, _, _, rfl, by omega, rfl, hO7, Below.via hb12 (Below.via hb24 hb47), fun b hb => ?_, ?_, Go.Proofs.Ytdiljpnfochndaa.HP.ins_pw hpw hj hlo (.inl hjl')⟩, by omega⟩, (by repeat (first | exact trivial | refine And.intro rfl ?_))⟩
        · rcases hn7 b hb with h | h
          · have := hn6' b h; omega
          · omega
        · rw [Go.Proofs.Ytdiljpnfochndaa.HP.take_snoc _ _ hkk]
          exact Go.Proofs.Ytdiljpnfochndaa.HP.ins_perm.trans (hperm.append_right _)
    · have hkk : k = (kid l i).length := by omega
      subst hkk
      rw [List.take_length] at hperm
      have hcs : cs = SS l dep vs i := SS_uniq hTF vs hi hperm hpw
      subst hcs
      have hO2 := hO1.below hb12
      have hv2 : SlI w2 (.slice Ac (SS l dep vs i).length cc) (SS l dep vs i) := hC.sl
      have hvb : ∀ b, (Value.slice Ac (SS l dep vs i).length cc).ownBlock = some b → w1.heap.size ≤ b ∧ b < w2.heap.size := fun b hb => ⟨hcb b hb, (hC.own.lt b hb).2⟩
      have hk02 : Kp (fun k => outB (.slice A tr.length c) cvs k) w w2 := (k1.trans (Kp.of_below (S := fun _ => False) hb12)).mono (fun k _ e => by rcases e with e | e; exact .inl e; exact e.elim)
      have ho2 : ∀ k, outB lv' (cvs ++ [.slice none 0 0]) k → k < w1.heap.size := fun k hk => (hO1.lt hk).2
      have hs12 := hb12.size
      have hsl := SS_len l dep vs i
      clear hC hcb
      (repeat (first | with_reducible refine W.seq ?_ | with_reducible refine Ops.nil ?_ | with_reducible refine W.region ?_ | refine z_p (kk := ?_) | refine z_a (kk := ?_) | refine z_y (kk := ?_) | refine z_n (kk := ?_) | refine z_u (kk := ?_) | with_reducible refine W.skip ?_ | with_reducible refine W.endb ?_ | with_reducible refine W.block ?_ | refine W.exit rfl ?_ | refine z_l (kk := ?_) | refine z_f (kk := ?_) | refine z_M (kk := ?_) | refine z_m (kk := ?_) | refine z_e (kk := ?_) | refine z_E (kk := ?_) | refine z_d (kk := ?_) | refine z_I (kk := fun _ => ?_) | refine z_J (kk := fun _ => ?_) | refine z_K (kk := fun _ => ?_) | refine z_L (kk := fun _ => ?_) | refine z_T (kk := ?_) | refine z_F (kk := ?_) | refine z_k (kk := fun _ _ _ _ _ => ?_) | refine z_w (kk := fun _ _ => ?_) | refine z_s (kk := fun _ _ _ _ => ?_) | refine z_D (kk := ?_) | refine z_g (kk := ?_) | refine z_h (kk := ?_)))
      refine W.loop (fun m ρ w3 => ∃ (j : Nat) (ov pv : Value) (cvs' : List Value), m = (kid l i).length - j ∧ j ≤ (kid l i).length ∧ ρ = [(0, .slice At l.length ct), (1, .slice Av vs.length cv0), (2, .int .i64 i), (3, .bool (evB dep i)), (4, ov), (11, .int .i64 tr.length), (12, .slice Ac (SS l dep vs i).length cc), (13, pv), (18, .int .i64 j)] ∧
        Below w0.heap.size w0 w3 ∧ TQ w0.heap.size w3 ov (tr ++ ([], wor l i) :: (kT (subT (SS l dep vs) l N) tr.length ((SS l dep vs i).take j)).2) cvs' ∧ OI 3 (Value.int .i64) w0 w3 pv (kT (subT (SS l dep vs) l N) tr.length ((SS l dep vs i).take j)).1 ∧ SlI w3 (.slice Ac (SS l dep vs i).length cc) (SS l dep vs i) ∧
        (∀ b, pv.ownBlock = some b → w2.heap.size ≤ b ∧ ¬ outB ov cvs' b) ∧ Kp (fun k => outB (.slice A tr.length c) cvs k) w w3 ∧ (∀ k, outB ov cvs' k → outB (.slice A tr.length c) cvs k ∨ w.heap.size ≤ k) ∧ (∀ k, outB ov cvs' k → k < w1.heap.size ∨ w2.heap.size ≤ k) ∧ w2.heap.size ≤ w3.heap.size)
        ⟨_, _, ⟨0, _, _, _, rfl, Nat.zero_le _, rfl, hb02, hO2, OI.nil hb02, hv2, fun b hb => by simp [Value.ownBlock] at hb, hk02, ho1, fun k hk => .inl (ho2 k hk), Nat.le_refl _⟩, (by repeat (first | exact trivial | refine And.intro rfl ?_))⟩ ?_
      clear hO2 hO1 hv2 hk02 ho1 ho2 hO
      rintro m ρ w3 ⟨j, ov, pv, cvs', rfl, hj, rfl, hb03, hQ3, hP3, hv3, hpb3, hk3, hn3, hn3', hs23⟩
      obtain ⟨Ao, co, rfl⟩ := hQ3.sh
      (repeat (first | with_reducible refine W.seq ?_ | with_reducible refine Ops.nil ?_ | with_reducible refine W.region ?_ | refine z_p (kk := ?_) | refine z_a (kk := ?_) | refine z_y (kk := ?_) | refine z_n (kk := ?_) | refine z_u (kk := ?_) | with_reducible refine W.skip ?_ | with_reducible refine W.endb ?_ | with_reducible refine W.block ?_ | refine W.exit rfl ?_ | refine z_l (kk := ?_) | refine z_f (kk := ?_) | refine z_M (kk := ?_) | refine z_m (kk := ?_) | refine z_e (kk := ?_) | refine z_E (kk := ?_) | refine z_d (kk := ?_) | refine z_I (kk := fun _ => ?_) | refine z_J (kk := fun _ => ?_) | refine z_K (kk := fun _ => ?_) | refine z_L (kk := fun _ => ?_) | refine z_T (kk := ?_) | refine z_F (kk := ?_) | refine z_k (kk := fun _ _ _ _ _ => ?_) | refine z_w (kk := fun _ _ => ?_) | refine z_s (kk := fun _ _ _ _ => ?_) | refine z_D (kk := ?_) | refine z_g (kk := ?_) | refine z_h (kk := ?_)))
      (first | refine W.condD rfl (fun hc => ?_) (fun hc => ?_) | refine W.condE rfl (fun hc => ?_) (fun hc => ?_) | refine W.condN rfl (fun hc => ?_) (fun hc => ?_) | refine W.cond rfl (fun hc => ?_) (fun hc => ?_))
      · have hjl : j < (SS l dep vs i).length := by omega
        have hmem := SS_mem hTF vs hi hjl
        have hevk : evB dep ((SS l dep vs i).getD j 0) = !evB dep i := by
          obtain ⟨p, hp, e⟩ := Go.Proofs.Ytdiljpnfochndaa.HP.kid_at ((SS_perm l dep vs i).mem_iff.1 (Go.Proofs.Ytdiljpnfochndaa.HP.getD_mem hjl))
          rw [← e]; exact evB_kid hTF hi hp
        obtain ⟨m, hm⟩ := Int.eq_ofNat_of_zero_le (show 0 ≤ (SS l dep vs i).getD j 0 by omega)
        have hfs := flat_split (f := subO (SS l dep vs) N) (SS l dep vs i) j hjl
        have hl2 := Go.Proofs.Ytdiljpnfochndaa.HP.kT_len2 (SS l dep vs) l N tr.length ((SS l dep vs i).take j)
        have hl1 := Go.Proofs.Ytdiljpnfochndaa.HP.kT_len1 (subT (SS l dep vs) l N) tr.length ((SS l dep vs i).take j)
        rw [List.length_take] at hl1
        have hsn := kT_snoc (subT (SS l dep vs) l N) tr.length ((SS l dep vs i).take j) ((SS l dep vs i).getD j 0)
        rw [← Go.Proofs.Ytdiljpnfochndaa.HP.take_snoc _ _ hjl] at hsn
        rw [hm] at hfs hmem hsn hevk
        generalize hP : kT (subT (SS l dep vs) l N) tr.length ((SS l dep vs i).take j) = P at *
        (repeat (first | with_reducible refine W.seq ?_ | with_reducible refine Ops.nil ?_ | with_reducible refine W.region ?_ | refine z_p (kk := ?_) | refine z_a (kk := ?_) | refine z_y (kk := ?_) | refine z_n (kk := ?_) | refine z_u (kk := ?_) | with_reducible refine W.skip ?_ | with_reducible refine W.endb ?_ | with_reducible refine W.block ?_ | refine W.exit rfl ?_ | refine z_l (kk := ?_) | refine z_f (kk := ?_) | refine z_M (kk := ?_) | refine z_m (kk := ?_) | refine z_e (kk := ?_) | refine z_E (kk := ?_) | refine z_d (kk := ?_) | refine z_I (kk := fun _ => ?_) | refine z_J (kk := fun _ => ?_) | refine z_K (kk := fun _ => ?_) | refine z_L (kk := fun _ => ?_) | refine z_T (kk := ?_) | refine z_F (kk := ?_) | refine z_k (kk := fun _ _ _ _ _ => ?_) | refine z_w (kk := fun _ _ => ?_) | refine z_s (kk := fun _ _ _ _ => ?_) | refine z_D (kk := ?_) | refine z_g (kk := ?_) | refine z_h (kk := ?_)))
        have hlen3 : (tr ++ ([], wor l i) :: P.2).length = tr.length + 1 + P.2.length := by simp only [List.length_append, List.length_cons]; omega
        rw [hlen3]
        refine Ops.pushO (enc := Value.int .i64) rfl rfl rfl rfl rfl rfl rfl rfl rfl rfl rfl rfl (fun _ => rfl) rfl hP3 (by omega) (fun pv4 _ w4 hP4 k4 hn4 => ?_)
        have hQ4 := hQ3.kp k4 (fun k hk e => (hpb3 k e).2 hk)
        have hb04 := hP4.bel
        have hs34 := k4.size
        have hv4 : SlI w4 (.slice Ac (SS l dep vs i).length cc) (SS l dep vs i) := hv3.kp k4 (fun b hb e => by have := hvb b hb; have := (hpb3 b e).1; omega)
        have hpb4 : ∀ b, pv4.ownBlock = some b → w2.heap.size ≤ b ∧ ¬ outB (.slice Ao (tr ++ ([], wor l i) :: P.2).length co) cvs' b := fun b hb => by
          rcases hn4 b hb with h | h
          · exact hpb3 b h
          · exact ⟨by omega, fun e => by have := (hQ3.lt e).2; omega⟩
        have hcl := ih w4 m _ _ cvs' (by omega) (by omega) hb04 hQ4 (by rw [hlen3]; omega)
        rw [hlen3, hevk] at hcl
        (repeat (first | with_reducible refine W.seq ?_ | with_reducible refine Ops.nil ?_ | with_reducible refine W.region ?_ | refine z_p (kk := ?_) | refine z_a (kk := ?_) | refine z_y (kk := ?_) | refine z_n (kk := ?_) | refine z_u (kk := ?_) | with_reducible refine W.skip ?_ | with_reducible refine W.endb ?_ | with_reducible refine W.block ?_ | refine W.exit rfl ?_ | refine z_l (kk := ?_) | refine z_f (kk := ?_) | refine z_M (kk := ?_) | refine z_m (kk := ?_) | refine z_e (kk := ?_) | refine z_E (kk := ?_) | refine z_d (kk := ?_) | refine z_I (kk := fun _ => ?_) | refine z_J (kk := fun _ => ?_) | refine z_K (kk := fun _ => ?_) | refine z_L (kk := fun _ => ?_) | refine z_T (kk := ?_) | refine z_F (kk := ?_) | refine z_k (kk := fun _ _ _ _ _ => ?_) | refine z_w (kk := fun _ _ => ?_) | refine z_s (kk := fun _ _ _ _ => ?_) | refine z_D (kk := ?_) | refine z_g (kk := ?_) | refine z_h (kk := ?_)))
        simp only [hm]
        simp only [hlen3] at hn3 hn3' hpb3 hpb4 hQ4 ⊢
        refine Ops.call rfl rfl rfl rfl rfl hcl (fun r w5 hR => ?_)
        obtain ⟨cvs5, hb05, hQ5, k5, hn5⟩ := hR
        rw [List.append_assoc, List.cons_append] at hQ5
        have hs45 := k5.size
        have hs3 := hk3.size
        have hpb4' := hpb4
        have hv5 : SlI w5 (.slice Ac (SS l dep vs i).length cc) (SS l dep vs i) := hv4.kp k5 (fun b hb e => by
          have := hvb b hb
          rcases hn3' b e with h | h <;> omega)
        have hP5 := hP4.kp k5 (fun b hb => ⟨(hQ4.lt hb).1, fun e => (hpb4 b e).2 hb⟩)
        have hpb5 : ∀ b, pv4.ownBlock = some b → w2.heap.size ≤ b ∧ ¬ outB r cvs5 b := fun b hb => ⟨(hpb4 b hb).1, fun e => by
          rcases hn5 b e with h | h
          · exact (hpb4 b hb).2 h
          · have := (hP4.own.lt b hb).2; omega⟩
        (repeat (first | with_reducible refine W.seq ?_ | with_reducible refine Ops.nil ?_ | with_reducible refine W.region ?_ | refine z_p (kk := ?_) | refine z_a (kk := ?_) | refine z_y (kk := ?_) | refine z_n (kk := ?_) | refine z_u (kk := ?_) | with_reducible refine W.skip ?_ | with_reducible refine W.endb ?_ | with_reducible refine W.block ?_ | refine W.exit rfl ?_ | refine z_l (kk := ?_) | refine z_f (kk := ?_) | refine z_M (kk := ?_) | refine z_m (kk := ?_) | refine z_e (kk := ?_) | refine z_E (kk := ?_) | refine z_d (kk := ?_) | refine z_I (kk := fun _ => ?_) | refine z_J (kk := fun _ => ?_) | refine z_K (kk := fun _ => ?_) | refine z_L (kk := fun _ => ?_) | refine z_T (kk := ?_) | refine z_F (kk := ?_) | refine z_k (kk := fun _ _ _ _ _ => ?_) | refine z_w (kk := fun _ _ => ?_) | refine z_s (kk := fun _ _ _ _ => ?_) | refine z_D (kk := ?_) | refine z_g (kk := ?_) | refine z_h (kk := ?_)))
        refine W.endl ⟨_, _, ⟨⟨j + 1, r, pv4, cvs5, rfl, by omega, rfl, hb05, by rw [hsn]; exact hQ5, by rw [hsn]; exact hP5, hv5, hpb5, ?_, ?_, ?_, by omega⟩, by omega⟩, (by repeat (first | exact trivial | refine And.intro rfl ?_))⟩
        · refine ((hk3.trans k4).trans k5).mono (fun b hb e => ?_)
          rcases e with (e | e) | e
          · exact e
          · have := (hpb3 b e).1; have := k1.size; omega
          · rcases hn3 b e with h | h
            · exact h
            · omega
        · intro b hb
          rcases hn5 b hb with h | h
          · exact hn3 b h
          · exact .inr (by omega)
        · intro b hb
          rcases hn5 b hb with h | h
          · exact hn3' b h
          · exact .inr (by omega)
      · have hjl : j = (SS l dep vs i).length := by omega
        subst hjl
        simp only [List.take_length] at hQ3 hP3 hpb3 hn3 hn3' ⊢
        obtain ⟨Ap, cp, rfl⟩ := hP3.sh
        have hplen : tr.length < (tr ++ ([], wor l i) :: (kT (subT (SS l dep vs) l N) tr.length (SS l dep vs i)).2).length := by simp only [List.length_append, List.length_cons]; omega
        have hset := app_set (tr := tr) (r := (kT (subT (SS l dep vs) l N) tr.length (SS l dep vs i)).2) (a := ([], wor l i)) (b := ((kT (subT (SS l dep vs) l N) tr.length (SS l dep vs i)).1, wor l i))
        have hput := fun {w'} => hQ3.put (w' := w') (x := wor l i) hplen hP3.own (fun k hk => ⟨hP3.ge k hk, (hpb3 k hk).2⟩)
        have hoput := outB_put (ov := .slice Ao (tr ++ ([], wor l i) :: (kT (subT (SS l dep vs) l N) tr.length (SS l dep vs i)).2).length co) (pv := .slice Ap (kT (subT (SS l dep vs) l N) tr.length (SS l dep vs i)).1.length cp) (cvs := cvs') (p := tr.length) (by rw [hQ3.len]; exact hplen)
        (repeat (first | with_reducible refine W.seq ?_ | with_reducible refine Ops.nil ?_ | with_reducible refine W.region ?_ | refine z_p (kk := ?_) | refine z_a (kk := ?_) | refine z_y (kk := ?_) | refine z_n (kk := ?_) | refine z_u (kk := ?_) | with_reducible refine W.skip ?_ | with_reducible refine W.endb ?_ | with_reducible refine W.block ?_ | refine W.exit rfl ?_ | refine z_l (kk := ?_) | refine z_f (kk := ?_) | refine z_M (kk := ?_) | refine z_m (kk := ?_) | refine z_e (kk := ?_) | refine z_E (kk := ?_) | refine z_d (kk := ?_) | refine z_I (kk := fun _ => ?_) | refine z_J (kk := fun _ => ?_) | refine z_K (kk := fun _ => ?_) | refine z_L (kk := fun _ => ?_) | refine z_T (kk := ?_) | refine z_F (kk := ?_) | refine z_k (kk := fun _ _ _ _ _ => ?_) | refine z_w (kk := fun _ _ => ?_) | refine z_s (kk := fun _ _ _ _ => ?_) | refine z_D (kk := ?_) | refine z_g (kk := ?_) | refine z_h (kk := ?_)))
        refine Ops.bldG (cs := #[.slice Ap (kT (subT (SS l dep vs) l N) tr.length (SS l dep vs i)).1.length cp, .int .i64 (wor l i)]) rfl rfl rfl rfl rfl rfl (by kernel_rfl) ?_
        refine Ops.wrOA rfl rfl rfl rfl rfl rfl rfl rfl rfl rfl rfl rfl (by simp) rfl rfl hQ3.row (by omega) (by omega) (fun w4 _ hrow4 k4 => ?_)
        rw [Int.toNat_natCast] at hrow4
        have hQ4 := hput hrow4 k4
        rw [hset] at hQ4
        have hs3 := hk3.size
        (repeat (first | with_reducible refine W.seq ?_ | with_reducible refine Ops.nil ?_ | with_reducible refine W.region ?_ | refine z_p (kk := ?_) | refine z_a (kk := ?_) | refine z_y (kk := ?_) | refine z_n (kk := ?_) | refine z_u (kk := ?_) | with_reducible refine W.skip ?_ | with_reducible refine W.endb ?_ | with_reducible refine W.block ?_ | refine W.exit rfl ?_ | refine z_l (kk := ?_) | refine z_f (kk := ?_) | refine z_M (kk := ?_) | refine z_m (kk := ?_) | refine z_e (kk := ?_) | refine z_E (kk := ?_) | refine z_d (kk := ?_) | refine z_I (kk := fun _ => ?_) | refine z_J (kk := fun _ => ?_) | refine z_K (kk := fun _ => ?_) | refine z_L (kk := fun _ => ?_) | refine z_T (kk := ?_) | refine z_F (kk := ?_) | refine z_k (kk := fun _ _ _ _ _ => ?_) | refine z_w (kk := fun _ _ => ?_) | refine z_s (kk := fun _ _ _ _ => ?_) | refine z_D (kk := ?_) | refine z_g (kk := ?_) | refine z_h (kk := ?_)))
        refine W.fret rfl ⟨_, Below.put hb03 k4 (fun b hb => hQ3.ge b hb), hQ4, (hk3.trans k4).mono (fun b hb e => ?_), fun b hb => ?_⟩
        · rcases e with e | e
          · exact e
          · rcases hn3 b (.inl e) with h | h
            · exact h
            · omega
        · rcases hoput b hb with h | h
          · exact hn3 b h
          · have := (hpb3 b h).1
            have := hbel.size
            have := k1.size
            exact .inr (by omega)
set_option maxHeartbeats 1000000 in
theorem refSorted_c {w : World} {v : Value} {l : List Nd} {dep : List Int} (hTr : TreeM w v l) (hT : TF l dep) :
    Calls Try.prog 53 #[v] w (Ret fun r w' => ∃ vs cvs, Below w.heap.size w w' ∧ ValP l dep (wor l) vs ∧ TQ w.heap.size w' r (sortM l dep vs) cvs) := by
  obtain ⟨At, ct, rfl⟩ := hTr.sl
  have hn1 := hT.n1
  have hn60 := hT.n60
  refine calls_W (vs := [_]) Try.func53 rfl (by kernel_rfl) rfl ?_
  (repeat (first | with_reducible refine W.seq ?_ | with_reducible refine Ops.nil ?_ | with_reducible refine W.region ?_ | refine z_p (kk := ?_) | refine z_a (kk := ?_) | refine z_y (kk := ?_) | refine z_n (kk := ?_) | refine z_u (kk := ?_) | with_reducible refine W.skip ?_ | with_reducible refine W.endb ?_ | with_reducible refine W.block ?_ | refine W.exit rfl ?_ | refine z_l (kk := ?_) | refine z_f (kk := ?_) | refine z_M (kk := ?_) | refine z_m (kk := ?_) | refine z_e (kk := ?_) | refine z_E (kk := ?_) | refine z_d (kk := ?_) | refine z_I (kk := fun _ => ?_) | refine z_J (kk := fun _ => ?_) | refine z_K (kk := fun _ => ?_) | refine z_L (kk := fun _ => ?_) | refine z_T (kk := ?_) | refine z_F (kk := ?_) | refine z_k (kk := fun _ _ _ _ _ => ?_) | refine z_w (kk := fun _ _ => ?_) | refine z_s (kk := fun _ _ _ _ => ?_) | refine z_D (kk := ?_) | refine z_g (kk := ?_) | refine z_h (kk := ?_)))
  refine Ops.call rfl rfl rfl rfl rfl (refValues_c hTr hT) (fun r w1 hR => ?_)
  obtain ⟨vs, hI, hvs⟩ := hR
  have hb1 := hI.bel
  have hlen := Go.Proofs.Ytdiljpnfochndaa.HP.subO_len (Go.Proofs.Ytdiljpnfochndaa.HP.SS_ord l dep vs) hT l.length 0 (by omega)
  have he0 : evB dep (0 : Nat) = true := by
    have := hT.dbd 0
    unfold evB
    rw [show rd dep ((0 : Nat) : Int) = 0 by show dep.getD 0 0 = 0; omega]
    rfl
  have hcl := below_c (hTr.below hb1) hI.sl hT hvs.len l.length w1 0 (.slice none 0 0) [] [] (by omega) (by omega) (Below.refl _ _) (TQ.nil _ _) (by simp only [List.length_nil]; omega)
  rw [he0] at hcl
  refine Ops.call rfl rfl rfl rfl rfl hcl (fun r2 w2 hR => ?_)
  obtain ⟨cvs, hb2, hQ, _, _⟩ := hR
  rw [List.nil_append] at hQ
  have hs1 := hb1.size
  (repeat (first | with_reducible refine W.seq ?_ | with_reducible refine Ops.nil ?_ | with_reducible refine W.region ?_ | refine z_p (kk := ?_) | refine z_a (kk := ?_) | refine z_y (kk := ?_) | refine z_n (kk := ?_) | refine z_u (kk := ?_) | with_reducible refine W.skip ?_ | with_reducible refine W.endb ?_ | with_reducible refine W.block ?_ | refine W.exit rfl ?_ | refine z_l (kk := ?_) | refine z_f (kk := ?_) | refine z_M (kk := ?_) | refine z_m (kk := ?_) | refine z_e (kk := ?_) | refine z_E (kk := ?_) | refine z_d (kk := ?_) | refine z_I (kk := fun _ => ?_) | refine z_J (kk := fun _ => ?_) | refine z_K (kk := fun _ => ?_) | refine z_L (kk := fun _ => ?_) | refine z_T (kk := ?_) | refine z_F (kk := ?_) | refine z_k (kk := fun _ _ _ _ _ => ?_) | refine z_w (kk := fun _ _ => ?_) | refine z_s (kk := fun _ _ _ _ => ?_) | refine z_D (kk := ?_) | refine z_g (kk := ?_) | refine z_h (kk := ?_)))
  exact W.fret rfl ⟨vs, cvs, Below.via hb1 hb2, hvs, ⟨fun k hk => by have := hQ.ge k hk; omega, hQ.len, hQ.row, hQ.own, fun j hj k hk => by have := hQ.sep j hj k hk; exact ⟨by omega, this.2⟩, hQ.two⟩⟩
end Go.Proofs.Ytdiljpnfochndaa
/- The turned tree. -/
namespace Go.Proofs.Ytdiljpnfochndaa.HP
def turnM (l : List Nd) : List Nd := ([1], 0) :: l.map fun x => (x.1.map (· + 1), -x.2)
theorem turn_len (l : List Nd) : (turnM l).length = l.length + 1 := by simp [turnM]
theorem turn_at (l : List Nd) (i : Nat) (h : i < l.length) : (turnM l).getD (i + 1) ([], 0) = ((kid l i).map (· + 1), - wor l i) := by
  simp [turnM, kid, wor, List.getD_eq_getElem?_getD, h]
theorem turn_kid0 (l : List Nd) : kid (turnM l) 0 = [1] := rfl
theorem turn_kid (l : List Nd) (i : Nat) (h : i < l.length) : kid (turnM l) ((i : Int) + 1) = (kid l i).map (· + 1) := by
  show ((turnM l).getD ((i : Int) + 1).toNat ([], 0)).1 = _
  rw [show ((i : Int) + 1).toNat = i + 1 by omega, turn_at l i h]
theorem turn_wor (l : List Nd) (i : Nat) (h : i < l.length) : wor (turnM l) ((i : Int) + 1) = - wor l i := by
  show ((turnM l).getD ((i : Int) + 1).toNat ([], 0)).2 = _
  rw [show ((i : Int) + 1).toNat = i + 1 by omega, turn_at l i h]
theorem turn_leaf (l : List Nd) (i : Nat) (h : i < l.length) : leafB (turnM l) ((i : Int) + 1) = leafB l i := by
  unfold leafB
  rw [turn_kid l i h]
  cases kid l i <;> rfl
theorem map_getD (xs : List Int) (b : Nat) (h : b < xs.length) : (xs.map (· + 1)).getD b 0 = xs.getD b 0 + 1 := by
  simp [List.getD_eq_getElem?_getD, h]
theorem turn_k (l : List Nd) (a b : Nat) (ha : a < l.length) (hb : b < (kid l a).length) : k_ (turnM l) (a + 1) b = k_ l a b + 1 := by
  unfold k_
  rw [show (((a + 1 : Nat)) : Int) = (a : Int) + 1 by omega, turn_kid l a ha, map_getD _ _ hb]
theorem turn_TK {l : List Nd} (h : TK l) (h59 : l.length ≤ 59) : TK (turnM l) := by
  have hn := h.n1
  have hkl : ∀ a : Nat, a < l.length → (kid (turnM l) ((a + 1 : Nat) : Int)).length = (kid l a).length := fun a ha => by
    rw [show (((a + 1 : Nat)) : Int) = (a : Int) + 1 by omega, turn_kid l a ha, List.length_map]
  have h0 : k_ (turnM l) 0 0 = 1 := rfl
  refine ⟨by rw [turn_len]; omega, by rw [turn_len]; omega, fun a b ha hb => ?_, fun a b a' b' ha hb ha' hb' he => ?_, fun c h1 h2 => ?_, fun a ha => ?_⟩
  · rw [turn_len] at ha ⊢
    cases a with
    | zero =>
      have : b = 0 := by have : (kid (turnM l) ((0 : Nat) : Int)).length = 1 := rfl; omega
      subst this
      rw [h0]; omega
    | succ a =>
      rw [hkl a (by omega)] at hb
      have := h.kin a b (by omega) hb
      rw [turn_k l a b (by omega) hb]
      omega
  · rw [turn_len] at ha ha'
    cases a with
    | zero =>
      have e0 : b = 0 := by have : (kid (turnM l) ((0 : Nat) : Int)).length = 1 := rfl; omega
      subst e0
      cases a' with
      | zero =>
        have e0 : b' = 0 := by have : (kid (turnM l) ((0 : Nat) : Int)).length = 1 := rfl; omega
        exact ⟨rfl, e0.symm⟩
      | succ a' =>
        rw [hkl a' (by omega)] at hb'
        have := h.kin a' b' (by omega) hb'
        rw [h0, turn_k l a' b' (by omega) hb'] at he
        omega
    | succ a =>
      rw [hkl a (by omega)] at hb
      cases a' with
      | zero =>
        have e0 : b' = 0 := by have : (kid (turnM l) ((0 : Nat) : Int)).length = 1 := rfl; omega
        subst e0
        have := h.kin a b (by omega) hb
        rw [h0, turn_k l a b (by omega) hb] at he
        omega
      | succ a' =>
        rw [hkl a' (by omega)] at hb'
        rw [turn_k l a b (by omega) hb, turn_k l a' b' (by omega) hb'] at he
        have := h.inj a b a' b' (by omega) hb (by omega) hb' (by omega)
        omega
  · rw [turn_len] at h2
    cases c with
    | zero => omega
    | succ c =>
      cases c with
      | zero => exact ⟨0, 0, by rw [turn_len]; omega, Nat.zero_lt_one, rfl⟩
      | succ c =>
        obtain ⟨a, b, ha, hb, hk⟩ := h.cov (c + 1) (by omega) (by omega)
        refine ⟨a + 1, b, by rw [turn_len]; omega, by rw [hkl a ha]; exact hb, ?_⟩
        rw [turn_k l a b ha hb, hk]
        omega
  · rw [turn_len] at ha
    cases a with
    | zero => exact ⟨show (-100 : Int) ≤ 0 by decide, show (0 : Int) ≤ 100 by decide, fun _ => rfl⟩
    | succ a =>
      rw [hkl a (by omega)]
      have := h.wor a (by omega)
      have hw := turn_wor l a (by omega)
      rw [show (((a + 1 : Nat)) : Int) = (a : Int) + 1 by omega, hw]
      exact ⟨by omega, by omega, fun hp => by have := this.2.2 hp; omega⟩
theorem turn_dep {l : List Nd} {dep dep' : List Int} (hT : TF l dep) (hT' : TF (turnM l) dep') : dep'.getD 0 0 = 0 ∧ ∀ i : Nat, i < l.length → dep'.getD (i + 1) 0 = dep.getD i 0 + 1 := by
  have h0' : dep'.getD 0 0 = 0 := by have := hT'.dbd 0; omega
  have h0 : dep.getD 0 0 = 0 := by have := hT.dbd 0; omega
  refine ⟨h0', fun i => ?_⟩
  induction i using Nat.strongRecOn with
  | _ i ih =>
    intro hi
    by_cases e : i = 0
    · subst e
      have := hT'.kdep 0 0 (by rw [turn_len]; omega) Nat.zero_lt_one
      rw [show k_ (turnM l) 0 0 = 1 from rfl] at this
      simp only [rd] at this
      rw [show ((0 : Nat) : Int).toNat = 0 from rfl, show (1 : Int).toNat = 1 from rfl, h0'] at this
      rw [h0]
      exact this
    · obtain ⟨a, b, ha, hb, hk⟩ := hT.cov i (by omega) hi
      have hlt := hT.kin a b ha hb
      have h1 := hT.kdep a b ha hb
      have h2 := hT'.kdep (a + 1) b (by rw [turn_len]; omega) (by rw [show (((a + 1 : Nat)) : Int) = (a : Int) + 1 by omega, turn_kid l a ha, List.length_map]; exact hb)
      rw [turn_k l a b ha hb, hk] at h2
      rw [hk] at h1 hlt
      simp only [rd, Int.toNat_natCast] at h1 h2
      rw [show ((i : Int) + 1).toNat = i + 1 by omega] at h2
      rw [h2, h1, ih a (by omega) ha]
theorem turn_ev {l : List Nd} {dep dep' : List Int} (hT : TF l dep) (hT' : TF (turnM l) dep') {i : Nat} (hi : i < l.length) : evB dep' ((i : Int) + 1) = !evB dep i := by
  have h := (turn_dep hT hT').2 i hi
  have hb := (hT.dbd i).1
  unfold evB
  simp only [rd, Int.toNat_natCast]
  rw [show ((i : Int) + 1).toNat = i + 1 by omega, h]
  generalize dep.getD i 0 = d at *
  rw [Int.tmod_eq_emod_of_nonneg (by omega), Int.tmod_eq_emod_of_nonneg (by omega)]
  by_cases h : d % 2 = 0
  · rw [h, show (d + 1) % 2 = 1 by omega]; rfl
  · rw [show d % 2 = 1 by omega, show (d + 1) % 2 = 0 by omega]; rfl
theorem maxL_neg (xs : List Int) : maxL (xs.map fun x => -x) = - minL xs := by
  cases xs with
  | nil => rfl
  | cons x r =>
    simp only [maxL, minL, List.map_cons]
    induction r generalizing x with
    | nil => rfl
    | cons y r ih => simp only [List.map_cons, List.foldl_cons]; rw [show max (-x) (-y) = - min x y by omega]; exact ih _
theorem minL_neg (xs : List Int) : minL (xs.map fun x => -x) = - maxL xs := by
  cases xs with
  | nil => rfl
  | cons x r =>
    simp only [maxL, minL, List.map_cons]
    induction r generalizing x with
    | nil => rfl
    | cons y r ih => simp only [List.map_cons, List.foldl_cons]; rw [show min (-x) (-y) = - max x y by omega]; exact ih _
theorem turn_val {l : List Nd} {dep dep' : List Int} {vs us : List Int} (hT : TF l dep) (hT' : TF (turnM l) dep') (hv : ValP l dep (wor l) vs) (hu : ValP (turnM l) dep' (wor (turnM l)) us) : us.getD 0 0 = - vs.getD 0 0 := by
  have hn := hT.n1
  have key : ∀ j : Nat, j < l.length → us.getD (j + 1) 0 = - vs.getD j 0 := by
    refine tree_ind hT (Q := fun j => us.getD (j + 1) 0 = - vs.getD j 0) fun j hj hk => ?_
    have kD : (kid (turnM l) ((j : Int) + 1)).map (rd us) = ((kid l j).map (rd vs)).map fun x => -x := by
      rw [turn_kid l j hj, List.map_map, List.map_map]
      apply List.map_congr_left
      intro c hc
      obtain ⟨i, rfl, hi, h⟩ := hk c hc
      simp only [Function.comp, rd, Int.toNat_natCast]
      rw [show ((i : Int) + 1).toNat = i + 1 by omega]
      exact h
    rw [hu.at_ (j + 1) (by rw [turn_len]; omega), hv.at_ j hj]
    unfold NV
    rw [show (((j + 1 : Nat)) : Int) = (j : Int) + 1 by omega, kD, turn_leaf l j hj, turn_ev hT hT' hj, turn_wor l j hj]
    generalize (kid l j).map (rd vs) = xs
    cases leafB l j <;> cases evB dep j <;> simp [maxL_neg, minL_neg]
  rw [hu.at_ 0 (by rw [turn_len]; omega)]
  have h0 : evB dep' 0 = true := by
    unfold evB
    simp only [rd]
    rw [show (0 : Int).toNat = 0 from rfl, (turn_dep hT hT').1]
    rfl
  unfold NV
  rw [show ((0 : Nat) : Int) = 0 from rfl, h0, turn_kid0, show leafB (turnM l) 0 = false from rfl]
  have := key 0 (by omega)
  simp only [rd, maxL, List.map_cons, List.map_nil, List.foldl_nil]
  simpa using this
theorem pick_shift {es fs : List Ef} : ∀ (cs : List Int) (a : Ef), (∀ c ∈ cs, ed fs (c + 1) = ((ed es c).1, (ed es c).2.map (· + 1))) → (cs.map (· + 1)).foldl (pickF fs) (a.1, a.2.map (· + 1)) = ((cs.foldl (pickF es) a).1, (cs.foldl (pickF es) a).2.map (· + 1))
  | [], _, _ => rfl
  | c :: r, a, h => by
    rw [List.map_cons, List.foldl_cons, List.foldl_cons]
    have hp : pickF fs (a.1, a.2.map (· + 1)) (c + 1) = ((pickF es a c).1, (pickF es a c).2.map (· + 1)) := by
      unfold pickF
      rw [h c (by simp)]
      split <;> simp_all
    rw [hp]
    exact pick_shift r _ fun x hx => h x (by simp [hx])
theorem join_shift {es fs : List Ef} : ∀ (cs : List Int) (a : Ef), (∀ c ∈ cs, ed fs (c + 1) = ((ed es c).1, (ed es c).2.map (· + 1))) → (cs.map (· + 1)).foldl (joinF fs) (a.1, a.2.map (· + 1)) = ((cs.foldl (joinF es) a).1, (cs.foldl (joinF es) a).2.map (· + 1))
  | [], _, _ => rfl
  | c :: r, a, h => by
    rw [List.map_cons, List.foldl_cons, List.foldl_cons]
    have hp : joinF fs (a.1, a.2.map (· + 1)) (c + 1) = ((joinF es a c).1, (joinF es a c).2.map (· + 1)) := by
      unfold joinF
      rw [h c (by simp)]
      simp
    rw [hp]
    exact join_shift r _ fun x hx => h x (by simp [hx])
theorem turn_need {l : List Nd} {dep dep' : List Int} {lf lf' : Int → Int} {es fs : List Ef} (hT : TF l dep) (hT' : TF (turnM l) dep') (hE : NeedP l dep false lf es) (hF : NeedP (turnM l) dep' true lf' fs)
    (h : ∀ i : Nat, i < l.length → leafB l i = true → lf' ((i : Int) + 1) = lf i) (hb : (es.getD 0 (0, [])).1 ≤ far) : (fs.getD 0 (0, [])).1 = (es.getD 0 (0, [])).1 ∧ ((es.getD 0 (0, [])).1 < far → (fs.getD 0 (0, [])).2.length = (es.getD 0 (0, [])).2.length) := by
  have hn := hT.n1
  have key : ∀ j : Nat, j < l.length → fs.getD (j + 1) (0, []) = ((es.getD j (0, [])).1, (es.getD j (0, [])).2.map (· + 1)) := by
    refine tree_ind hT (Q := fun j => fs.getD (j + 1) (0, []) = ((es.getD j (0, [])).1, (es.getD j (0, [])).2.map (· + 1))) fun j hj hk => ?_
    have kD : ∀ c ∈ kid l j, ed fs (c + 1) = ((ed es c).1, (ed es c).2.map (· + 1)) := fun c hc => by
      obtain ⟨i, rfl, hi, h⟩ := hk c hc
      simp only [ed, Int.toNat_natCast]
      rw [show ((i : Int) + 1).toNat = i + 1 by omega]
      exact h
    rw [hF.at_ (j + 1) (by rw [turn_len]; omega), hE.at_ j hj]
    unfold NE
    rw [show (((j + 1 : Nat)) : Int) = (j : Int) + 1 by omega, turn_leaf l j hj, turn_ev hT hT' hj, turn_kid l j hj]
    by_cases hl : leafB l j = true
    · rw [if_pos hl, if_pos hl, h j hj hl]; rfl
    · rw [if_neg hl, if_neg hl]
      have hp := pick_shift (kid l j) (far, []) kD
      have hq := join_shift (kid l j) (0, []) kD
      simp only [List.map_nil] at hp hq
      cases evB dep j
      · simpa using hp
      · simpa using hq
  have h0 : evB dep' 0 = true := by
    unfold evB
    simp only [rd]
    rw [show (0 : Int).toNat = 0 from rfl, (turn_dep hT hT').1]
    rfl
  have hk := key 0 (by omega)
  have hz := hF.at_ 0 (by rw [turn_len]; omega)
  unfold NE at hz
  rw [show ((0 : Nat) : Int) = 0 from rfl, h0, turn_kid0, show leafB (turnM l) 0 = false from rfl] at hz
  simp only [Bool.false_eq_true, if_false, beq_self_eq_true, if_true, List.foldl_cons, List.foldl_nil, pickF, ed] at hz
  rw [show (1 : Int).toNat = 0 + 1 from rfl, hk] at hz
  rw [hz]
  split
  · exact ⟨rfl, fun _ => by simp⟩
  · rename_i hx
    simp only at hx ⊢
    exact ⟨by omega, fun h => by omega⟩
theorem kids_shift {l : List Nd} {ev : Bool} {rec rec' : Int → Int → Int → Int × List Int} : ∀ (cs : List Int) (lo hi : Int), (∀ c ∈ cs, ∀ lo hi, rec' (c + 1) (-hi) (-lo) = (-(rec c lo hi).1, (rec c lo hi).2.map (· + 1))) →
    kidsS rec' (!ev) (cs.map (· + 1)) (-hi) (-lo) = (-(kidsS rec ev cs lo hi).2.1, -(kidsS rec ev cs lo hi).1, (kidsS rec ev cs lo hi).2.2.map (· + 1))
  | [], lo, hi, _ => rfl
  | c :: r, lo, hi, h => by
    have hc := h c (by simp) lo hi
    simp only [List.map_cons, kidsS]
    rw [hc]
    have e1 : (if (!ev) = true then -lo else min (-lo) (-(rec c lo hi).1)) = -(if ev = true then max lo (rec c lo hi).1 else lo) := by cases ev <;> simp <;> omega
    have e2 : (if (!ev) = true then max (-hi) (-(rec c lo hi).1) else -hi) = -(if ev = true then hi else min hi (rec c lo hi).1) := by cases ev <;> simp <;> omega
    simp only [e1, e2]
    generalize (if ev = true then max lo (rec c lo hi).1 else lo) = lo' at *
    generalize (if ev = true then hi else min hi (rec c lo hi).1) = hi' at *
    by_cases hle : hi' ≤ lo'
    · rw [if_pos hle, if_pos (by omega)]
    · rw [if_neg hle, if_neg (by omega), kids_shift (l := l) r lo' hi' fun x hx => h x (by simp [hx])]
      simp
theorem turn_sr {l : List Nd} {dep dep' : List Int} (hT : TF l dep) (hT' : TF (turnM l) dep') : ∀ (f : Nat) (i : Nat) (lo hi : Int), i < l.length → srS (turnM l) dep' f ((i : Int) + 1) (-hi) (-lo) = (-(srS l dep f i lo hi).1, (srS l dep f i lo hi).2.map (· + 1))
  | 0, i, lo, hi, _ => rfl
  | f + 1, i, lo, hi, h => by
    simp only [srS]
    rw [turn_leaf l i h, turn_ev hT hT' h, turn_kid l i h, turn_wor l i h]
    by_cases hl : leafB l i = true
    · rw [if_pos hl, if_pos hl]; rfl
    · rw [if_neg hl, if_neg hl, kids_shift (l := l) (kid l i) lo hi fun c hc lo hi => by
        obtain ⟨h1, h2⟩ := mem_kid hT h hc
        have := turn_sr hT hT' f c.toNat lo hi (by omega)
        rw [show ((c.toNat : Nat) : Int) = c by omega] at this
        exact this]
      cases evB dep i <;> simp
theorem turn_search {l : List Nd} {dep dep' : List Int} (hT : TF l dep) (hT' : TF (turnM l) dep') : (srS (turnM l) dep' (turnM l).length 0 (-far) far).2.length = (srS l dep l.length 0 (-far) far).2.length := by
  have hn := hT.n1
  have h0 : evB dep' 0 = true := by
    unfold evB
    simp only [rd]
    rw [show (0 : Int).toNat = 0 from rfl, (turn_dep hT hT').1]
    rfl
  have h := turn_sr hT hT' l.length 0 (-far) far (by omega)
  rw [turn_len]
  simp only [srS]
  rw [show leafB (turnM l) 0 = false from rfl, h0, turn_kid0]
  simp only [Bool.false_eq_true, if_false, kidsS, if_true]
  have e : srS (turnM l) dep' l.length 1 (-far) far = (-(srS l dep l.length 0 (-far) far).1, (srS l dep l.length 0 (-far) far).2.map (· + 1)) := by
    have := h
    simpa using this
  rw [e]
  split <;> simp
end Go.Proofs.Ytdiljpnfochndaa.HP
namespace Go.Proofs.Ytdiljpnfochndaa
open Go Go.RowKit Go.Proofs.Ytdiljpnfochndaa.VW
open Go.Proofs.Ytdiljpnfochndaa.HP (tameM tame_TK modM modM_bd Nd kid wor leafB rd gameOf gameOf_TF TF TK turnM turn_len turn_TK ValP far NeedP srS)
attribute [local irreducible] W Ops OrdA VW.Ord OrdX
theorem turn_take {l : List Nd} {i : Nat} (h : i < l.length) : (l.take (i + 1)).map (fun x : Nd => (x.1.map (· + 1), -x.2)) = (l.take i).map (fun x : Nd => (x.1.map (· + 1), -x.2)) ++ [((kid l i).map (· + 1), - wor l i)] := by
  rw [List.take_succ_eq_append_getElem h, List.map_append]
  simp [kid, wor, List.getD_eq_getElem?_getD, h]
theorem map_take_succ {xs : List Int} {j : Nat} (h : j < xs.length) : (xs.take (j + 1)).map (· + 1) = (xs.take j).map (· + 1) ++ [xs.getD j 0 + 1] := by
  rw [Go.Proofs.Ytdiljpnfochndaa.HP.take_snoc xs j h, List.map_append]
  rfl
def TurnR (l : List Nd) (w w' : World) (r : Value) : Prop := (if l.length = 60 then none else gameOf l).elim (r = .tuple #[.slice none 0 0, .int .i64 2]) fun dep => ∃ ov cvs, r = .tuple #[ov, .int .i64 0] ∧ TO w w' ov (turnM l) cvs
set_option maxHeartbeats 2000000 in
theorem turned_c {w : World} {v : Value} {l : List Nd} (hT : TreeM w v l) (hl : l.length ≤ 9223372036854775807) :
    Calls Try.prog 37 #[v] w (Ret fun r w' => Below w.heap.size w w' ∧ TurnR l w w' r) := by
  obtain ⟨At, ct, rfl⟩ := hT.sl
  refine calls_W (vs := [_]) Try.func37 rfl (by kernel_rfl) rfl ?_
  (repeat (first | with_reducible refine W.seq ?_ | with_reducible refine Ops.nil ?_ | with_reducible refine W.region ?_ | refine z_p (kk := ?_) | refine z_a (kk := ?_) | refine z_y (kk := ?_) | refine z_n (kk := ?_) | refine z_u (kk := ?_) | with_reducible refine W.skip ?_ | with_reducible refine W.endb ?_ | with_reducible refine W.block ?_ | refine W.exit rfl ?_ | refine z_l (kk := ?_) | refine z_f (kk := ?_) | refine z_M (kk := ?_) | refine z_m (kk := ?_) | refine z_e (kk := ?_) | refine z_E (kk := ?_) | refine z_d (kk := ?_) | refine z_I (kk := fun _ => ?_) | refine z_J (kk := fun _ => ?_) | refine z_K (kk := fun _ => ?_) | refine z_L (kk := fun _ => ?_) | refine z_T (kk := ?_) | refine z_F (kk := ?_) | refine z_k (kk := fun _ _ _ _ _ => ?_) | refine z_w (kk := fun _ _ => ?_) | refine z_s (kk := fun _ _ _ _ => ?_) | refine z_g (kk := ?_) | refine z_h (kk := ?_)))
  refine Ops.call rfl rfl rfl rfl rfl (newGame_c hT hl) (fun r w1 hR => ?_)
  obtain ⟨hb1, hR⟩ := hR
  cases hg : gameOf l with
  | none =>
    rw [hg] at hR
    obtain ⟨p, hp1, rfl⟩ := hR
    (repeat (first | with_reducible refine W.seq ?_ | with_reducible refine Ops.nil ?_ | with_reducible refine W.region ?_ | refine z_p (kk := ?_) | refine z_a (kk := ?_) | refine z_y (kk := ?_) | refine z_n (kk := ?_) | refine z_u (kk := ?_) | with_reducible refine W.skip ?_ | with_reducible refine W.endb ?_ | with_reducible refine W.block ?_ | refine W.exit rfl ?_ | refine z_l (kk := ?_) | refine z_f (kk := ?_) | refine z_M (kk := ?_) | refine z_m (kk := ?_) | refine z_e (kk := ?_) | refine z_E (kk := ?_) | refine z_d (kk := ?_) | refine z_I (kk := fun _ => ?_) | refine z_J (kk := fun _ => ?_) | refine z_K (kk := fun _ => ?_) | refine z_L (kk := fun _ => ?_) | refine z_T (kk := ?_) | refine z_F (kk := ?_) | refine z_k (kk := fun _ _ _ _ _ => ?_) | refine z_w (kk := fun _ _ => ?_) | refine z_s (kk := fun _ _ _ _ => ?_) | refine z_g (kk := ?_) | refine z_h (kk := ?_)))
    refine W.condT rfl (by first | rfl | assumption | (simp only [bnf] <;> omega) | (simp only [*, bnf]; done) | fail) ?_
    (repeat (first | with_reducible refine W.seq ?_ | with_reducible refine Ops.nil ?_ | with_reducible refine W.region ?_ | refine z_p (kk := ?_) | refine z_a (kk := ?_) | refine z_y (kk := ?_) | refine z_n (kk := ?_) | refine z_u (kk := ?_) | with_reducible refine W.skip ?_ | with_reducible refine W.endb ?_ | with_reducible refine W.block ?_ | refine W.exit rfl ?_ | refine z_l (kk := ?_) | refine z_f (kk := ?_) | refine z_M (kk := ?_) | refine z_m (kk := ?_) | refine z_e (kk := ?_) | refine z_E (kk := ?_) | refine z_d (kk := ?_) | refine z_I (kk := fun _ => ?_) | refine z_J (kk := fun _ => ?_) | refine z_K (kk := fun _ => ?_) | refine z_L (kk := fun _ => ?_) | refine z_T (kk := ?_) | refine z_F (kk := ?_) | refine z_k (kk := fun _ _ _ _ _ => ?_) | refine z_w (kk := fun _ _ => ?_) | refine z_s (kk := fun _ _ _ _ => ?_) | refine z_g (kk := ?_) | refine z_h (kk := ?_)))
    exact W.fret rfl ⟨hb1, by simp only [TurnR, hg, ite_self]; rfl⟩
  | some dep =>
    rw [hg] at hR
    obtain ⟨g, rfl, hgs, hG⟩ := hR
    have hTF := gameOf_TF hg
    have hn60 := hTF.n60
    have hn1 := hTF.n1
    by_cases h60 : l.length = 60
    · (repeat (first | with_reducible refine W.seq ?_ | with_reducible refine Ops.nil ?_ | with_reducible refine W.region ?_ | refine z_p (kk := ?_) | refine z_a (kk := ?_) | refine z_y (kk := ?_) | refine z_n (kk := ?_) | refine z_u (kk := ?_) | with_reducible refine W.skip ?_ | with_reducible refine W.endb ?_ | with_reducible refine W.block ?_ | refine W.exit rfl ?_ | refine z_l (kk := ?_) | refine z_f (kk := ?_) | refine z_M (kk := ?_) | refine z_m (kk := ?_) | refine z_e (kk := ?_) | refine z_E (kk := ?_) | refine z_d (kk := ?_) | refine z_I (kk := fun _ => ?_) | refine z_J (kk := fun _ => ?_) | refine z_K (kk := fun _ => ?_) | refine z_L (kk := fun _ => ?_) | refine z_T (kk := ?_) | refine z_F (kk := ?_) | refine z_k (kk := fun _ _ _ _ _ => ?_) | refine z_w (kk := fun _ _ => ?_) | refine z_s (kk := fun _ _ _ _ => ?_) | refine z_g (kk := ?_) | refine z_h (kk := ?_)))
      refine W.condT rfl (by first | rfl | assumption | (simp only [bnf] <;> omega) | (simp only [*, bnf]; done) | fail) ?_
      (repeat (first | with_reducible refine W.seq ?_ | with_reducible refine Ops.nil ?_ | with_reducible refine W.region ?_ | refine z_p (kk := ?_) | refine z_a (kk := ?_) | refine z_y (kk := ?_) | refine z_n (kk := ?_) | refine z_u (kk := ?_) | with_reducible refine W.skip ?_ | with_reducible refine W.endb ?_ | with_reducible refine W.block ?_ | refine W.exit rfl ?_ | refine z_l (kk := ?_) | refine z_f (kk := ?_) | refine z_M (kk := ?_) | refine z_m (kk := ?_) | refine z_e (kk := ?_) | refine z_E (kk := ?_) | refine z_d (kk := ?_) | refine z_I (kk := fun _ => ?_) | refine z_J (kk := fun _ => ?_) | refine z_K (kk := fun _ => ?_) | refine z_L (kk := fun _ => ?_) | refine z_T (kk := ?_) | refine z_F (kk := ?_) | refine z_k (kk := fun _ _ _ _ _ => ?_) | refine z_w (kk := fun _ _ => ?_) | refine z_s (kk := fun _ _ _ _ => ?_) | refine z_g (kk := ?_) | refine z_h (kk := ?_)))
      exact W.fret rfl ⟨hb1, by simp only [TurnR]; rw [if_pos h60]; rfl⟩
    · have h60' : ¬ ((l.length : Int) = 60) := by omega
      (repeat (first | with_reducible refine W.seq ?_ | with_reducible refine Ops.nil ?_ | with_reducible refine W.region ?_ | refine z_p (kk := ?_) | refine z_a (kk := ?_) | refine z_y (kk := ?_) | refine z_n (kk := ?_) | refine z_u (kk := ?_) | with_reducible refine W.skip ?_ | with_reducible refine W.endb ?_ | with_reducible refine W.block ?_ | refine W.exit rfl ?_ | refine z_l (kk := ?_) | refine z_f (kk := ?_) | refine z_M (kk := ?_) | refine z_m (kk := ?_) | refine z_e (kk := ?_) | refine z_E (kk := ?_) | refine z_d (kk := ?_) | refine z_I (kk := fun _ => ?_) | refine z_J (kk := fun _ => ?_) | refine z_K (kk := fun _ => ?_) | refine z_L (kk := fun _ => ?_) | refine z_T (kk := ?_) | refine z_F (kk := ?_) | refine z_k (kk := fun _ _ _ _ _ => ?_) | refine z_w (kk := fun _ _ => ?_) | refine z_s (kk := fun _ _ _ _ => ?_) | refine z_g (kk := ?_) | refine z_h (kk := ?_)))
      refine W.condF rfl (by first | rfl | assumption | (simp only [bnf] <;> omega) | (simp only [*, bnf]; done) | fail) ?_
      (repeat (first | with_reducible refine W.seq ?_ | with_reducible refine Ops.nil ?_ | with_reducible refine W.region ?_ | refine z_p (kk := ?_) | refine z_a (kk := ?_) | refine z_y (kk := ?_) | refine z_n (kk := ?_) | refine z_u (kk := ?_) | with_reducible refine W.skip ?_ | with_reducible refine W.endb ?_ | with_reducible refine W.block ?_ | refine W.exit rfl ?_ | refine z_l (kk := ?_) | refine z_f (kk := ?_) | refine z_M (kk := ?_) | refine z_m (kk := ?_) | refine z_e (kk := ?_) | refine z_E (kk := ?_) | refine z_d (kk := ?_) | refine z_I (kk := fun _ => ?_) | refine z_J (kk := fun _ => ?_) | refine z_K (kk := fun _ => ?_) | refine z_L (kk := fun _ => ?_) | refine z_T (kk := ?_) | refine z_F (kk := ?_) | refine z_k (kk := fun _ _ _ _ _ => ?_) | refine z_w (kk := fun _ _ => ?_) | refine z_s (kk := fun _ _ _ _ => ?_) | refine z_g (kk := ?_) | refine z_h (kk := ?_)))
      refine Ops.bs1 rfl rfl rfl rfl rfl rfl rfl rfl rfl (fun w2 r2 hM2 => ?_)
      have hb2 : Below w.heap.size w w2 := Below.put hb1 hM2.kp (fun _ e => e.elim)
      have hk2 : SlI w2 (.slice (some ⟨r2, 0, none⟩) 1 1) [1] := own_sl (z := (0 : Int)) (xs := [1]) (own_one hM2)
      refine Ops.bldG (cs := #[.slice (some ⟨r2, 0, none⟩) 1 1, .int .i64 0]) rfl rfl rfl rfl rfl rfl (by kernel_rfl) ?_
      refine Ops.bsG (cs := #[.slice (some ⟨r2, 0, none⟩) 1 1, .int .i64 0]) rfl rfl rfl rfl rfl rfl rfl rfl rfl (by kernel_rfl) (fun w3 r3 hM3 => ?_)
      have hb3 : Below w.heap.size w w3 := Below.put hb2 hM3.kp (fun _ e => e.elim)
      have e2 := hM2.r_eq
      have e3 := hM3.r_eq
      have e4 := hM2.size
      have e5 := hb1.size
      have hTO3 : TO w w3 (.slice (some ⟨r3, 0, none⟩) 1 1) [([1], 0)] [.slice (some ⟨r2, 0, none⟩) 1 1] := by
        refine ⟨hb3, fun k hk => by simp [Value.ownBlock] at hk; omega, rfl, ⟨rfl, .inr ⟨r3, 1, _, rfl, Nat.zero_le _, hM3.at_, Nat.le_refl _, by simp [maxLen], rfl, rfl⟩⟩, fun j hj => ?_⟩
        have : j = 0 := by simp at hj; omega
        subst this
        refine ⟨Sl.kp hk2 hM3.kp (fun _ _ e => e), fun _ i hi => ?_⟩
        simp [Value.ownBlock] at hi ⊢
        omega
      (repeat (first | with_reducible refine W.seq ?_ | with_reducible refine Ops.nil ?_ | with_reducible refine W.region ?_ | refine z_p (kk := ?_) | refine z_a (kk := ?_) | refine z_y (kk := ?_) | refine z_n (kk := ?_) | refine z_u (kk := ?_) | with_reducible refine W.skip ?_ | with_reducible refine W.endb ?_ | with_reducible refine W.block ?_ | refine W.exit rfl ?_ | refine z_l (kk := ?_) | refine z_f (kk := ?_) | refine z_M (kk := ?_) | refine z_m (kk := ?_) | refine z_e (kk := ?_) | refine z_E (kk := ?_) | refine z_d (kk := ?_) | refine z_I (kk := fun _ => ?_) | refine z_J (kk := fun _ => ?_) | refine z_K (kk := fun _ => ?_) | refine z_L (kk := fun _ => ?_) | refine z_T (kk := ?_) | refine z_F (kk := ?_) | refine z_k (kk := fun _ _ _ _ _ => ?_) | refine z_w (kk := fun _ _ => ?_) | refine z_s (kk := fun _ _ _ _ => ?_) | refine z_g (kk := ?_) | refine z_h (kk := ?_)))
      refine W.loop (fun m ρ w4 => ∃ (i : Nat) (ov : Value) (cvs : List Value), m = l.length - i ∧ i ≤ l.length ∧ ρ = [(6, ov), (27, .slice At l.length ct), (28, .int .i64 l.length), (29, .int .i64 i)] ∧ TO w w4 ov (([1], 0) :: (l.take i).map fun x => (x.1.map (· + 1), -x.2)) cvs)
        ⟨_, _, ⟨0, _, _, rfl, Nat.zero_le _, rfl, hTO3⟩, (by repeat (first | exact trivial | refine And.intro rfl ?_))⟩ ?_
      clear hTO3 hk2
      rintro m ρ w4 ⟨i, ov, cvs, rfl, hi, rfl, hO⟩
      have hb4 := hO.bel
      (repeat (first | with_reducible refine W.seq ?_ | with_reducible refine Ops.nil ?_ | with_reducible refine W.region ?_ | refine z_p (kk := ?_) | refine z_a (kk := ?_) | refine z_y (kk := ?_) | refine z_n (kk := ?_) | refine z_u (kk := ?_) | with_reducible refine W.skip ?_ | with_reducible refine W.endb ?_ | with_reducible refine W.block ?_ | refine W.exit rfl ?_ | refine z_l (kk := ?_) | refine z_f (kk := ?_) | refine z_M (kk := ?_) | refine z_m (kk := ?_) | refine z_e (kk := ?_) | refine z_E (kk := ?_) | refine z_d (kk := ?_) | refine z_I (kk := fun _ => ?_) | refine z_J (kk := fun _ => ?_) | refine z_K (kk := fun _ => ?_) | refine z_L (kk := fun _ => ?_) | refine z_T (kk := ?_) | refine z_F (kk := ?_) | refine z_k (kk := fun _ _ _ _ _ => ?_) | refine z_w (kk := fun _ _ => ?_) | refine z_s (kk := fun _ _ _ _ => ?_) | refine z_g (kk := ?_) | refine z_h (kk := ?_)))
      (first | refine W.condD rfl (fun hc => ?_) (fun hc => ?_) | refine W.condE rfl (fun hc => ?_) (fun hc => ?_) | refine W.condN rfl (fun hc => ?_) (fun hc => ?_) | refine W.cond rfl (fun hc => ?_) (fun hc => ?_))
      · have hil : i < l.length := by omega
        have hkl := hTF.klen i hil
        have hkin := hTF.kin i
        have hwo := hTF.wor i hil
        (repeat (first | with_reducible refine W.seq ?_ | with_reducible refine Ops.nil ?_ | with_reducible refine W.region ?_ | refine z_p (kk := ?_) | refine z_a (kk := ?_) | refine z_y (kk := ?_) | refine z_n (kk := ?_) | refine z_u (kk := ?_) | with_reducible refine W.skip ?_ | with_reducible refine W.endb ?_ | with_reducible refine W.block ?_ | refine W.exit rfl ?_ | refine z_l (kk := ?_) | refine z_f (kk := ?_) | refine z_M (kk := ?_) | refine z_m (kk := ?_) | refine z_e (kk := ?_) | refine z_E (kk := ?_) | refine z_d (kk := ?_) | refine z_I (kk := fun _ => ?_) | refine z_J (kk := fun _ => ?_) | refine z_K (kk := fun _ => ?_) | refine z_L (kk := fun _ => ?_) | refine z_T (kk := ?_) | refine z_F (kk := ?_) | refine z_k (kk := fun _ _ _ _ _ => ?_) | refine z_w (kk := fun _ _ => ?_) | refine z_s (kk := fun _ _ _ _ => ?_) | refine z_g (kk := ?_) | refine z_h (kk := ?_)))
        refine Ops.alloc rfl rfl rfl rfl (fun w5 b8 hM5 => ?_)
        refine Ops.st2 rfl rfl rfl rfl rfl rfl rfl rfl hM5.at_ (fun w6 hu6 => ?_)
        have k6 := hM5.kp.trans hu6.kp
        have e5 := hM5.r_eq
        have hb46 : Below w4.heap.size w4 w6 := Below.put (Below.refl _ _) k6 (fun i hi => by rcases hi with hi | hi; exact hi.elim; omega)
        have hB8 := hu6.blk
        (repeat (first | with_reducible refine W.seq ?_ | with_reducible refine Ops.nil ?_ | with_reducible refine W.region ?_ | refine z_p (kk := ?_) | refine z_a (kk := ?_) | refine z_y (kk := ?_) | refine z_n (kk := ?_) | refine z_u (kk := ?_) | with_reducible refine W.skip ?_ | with_reducible refine W.endb ?_ | with_reducible refine W.block ?_ | refine W.exit rfl ?_ | refine z_l (kk := ?_) | refine z_f (kk := ?_) | refine z_M (kk := ?_) | refine z_m (kk := ?_) | refine z_e (kk := ?_) | refine z_E (kk := ?_) | refine z_d (kk := ?_) | refine z_I (kk := fun _ => ?_) | refine z_J (kk := fun _ => ?_) | refine z_K (kk := fun _ => ?_) | refine z_L (kk := fun _ => ?_) | refine z_T (kk := ?_) | refine z_F (kk := ?_) | refine z_k (kk := fun _ _ _ _ _ => ?_) | refine z_w (kk := fun _ _ => ?_) | refine z_s (kk := fun _ _ _ _ => ?_) | refine z_g (kk := ?_) | refine z_h (kk := ?_)))
        refine Ops.bldG (cs := #[.slice none 0 0, .int .i64 (0 - wor l i)]) rfl rfl rfl rfl rfl rfl (by kernel_rfl) ?_
        refine Ops.alloc rfl rfl rfl rfl (fun w7 b9 hM7 => ?_)
        refine Ops.st2 rfl rfl rfl rfl rfl rfl rfl rfl hM7.at_ (fun w8 hu8 => ?_)
        have k8 := hM7.kp.trans hu8.kp
        have e7 := hM7.r_eq
        have e6 := hM5.size
        have hsz := hu6.size
        have hb48 : Below w4.heap.size w4 w8 := Below.put hb46 k8 (fun i hi => by rcases hi with hi | hi; exact hi.elim; omega)
        have hB9 := hu8.blk
        have hB8' := Blk.kp hB8 k8 (fun hi => by rcases hi with hi | hi; exact hi; omega)
        have hb08 := Below.via hb4 hb48
        (repeat (first | with_reducible refine W.seq ?_ | with_reducible refine Ops.nil ?_ | with_reducible refine W.region ?_ | refine z_p (kk := ?_) | refine z_a (kk := ?_) | refine z_y (kk := ?_) | refine z_n (kk := ?_) | refine z_u (kk := ?_) | with_reducible refine W.skip ?_ | with_reducible refine W.endb ?_ | with_reducible refine W.block ?_ | refine W.exit rfl ?_ | refine z_l (kk := ?_) | refine z_f (kk := ?_) | refine z_M (kk := ?_) | refine z_m (kk := ?_) | refine z_e (kk := ?_) | refine z_E (kk := ?_) | refine z_d (kk := ?_) | refine z_I (kk := fun _ => ?_) | refine z_J (kk := fun _ => ?_) | refine z_K (kk := fun _ => ?_) | refine z_L (kk := fun _ => ?_) | refine z_T (kk := ?_) | refine z_F (kk := ?_) | refine z_k (kk := fun _ _ _ _ _ => ?_) | refine z_w (kk := fun _ _ => ?_) | refine z_s (kk := fun _ _ _ _ => ?_) | refine z_g (kk := ?_) | refine z_h (kk := ?_)))
        refine W.loop (fun m ρ w9 => ∃ (j : Nat) (lv : Value), m = (kid l i).length - j ∧ j ≤ (kid l i).length ∧ (∃ A c, ρ = [(6, ov), (9, .pointer (some ⟨b9, 0, none⟩)), (27, .slice At l.length ct), (28, .int .i64 l.length), (29, .int .i64 i), (38, .slice A (kid l i).length c), (39, .int .i64 (kid l i).length), (40, .int .i64 j)] ∧ SlI w (.slice A (kid l i).length c) (kid l i)) ∧ OI 3 (Value.int .i64) w4 w9 lv ((kid l i).take j |>.map (· + 1)) ∧ Blk w9 b9 #[lv, .int .i64 (0 - wor l i)] 47 ∧ lv.ownBlock ≠ some b9)
          ⟨_, _, ⟨0, _, rfl, Nat.zero_le _, ⟨_, _, rfl, by assumption⟩, OI.nil hb48, hB9, by simp [Value.ownBlock]⟩, (by repeat (first | exact trivial | refine And.intro rfl ?_))⟩ ?_
        rintro m ρ w9 ⟨j, lv, rfl, hj, ⟨Ak, ck, rfl, hks⟩, hL, hB, hne⟩
        have hb9 := Below.via hb4 hL.bel
        (repeat (first | with_reducible refine W.seq ?_ | with_reducible refine Ops.nil ?_ | with_reducible refine W.region ?_ | refine z_p (kk := ?_) | refine z_a (kk := ?_) | refine z_y (kk := ?_) | refine z_n (kk := ?_) | refine z_u (kk := ?_) | with_reducible refine W.skip ?_ | with_reducible refine W.endb ?_ | with_reducible refine W.block ?_ | refine W.exit rfl ?_ | refine z_l (kk := ?_) | refine z_f (kk := ?_) | refine z_M (kk := ?_) | refine z_m (kk := ?_) | refine z_e (kk := ?_) | refine z_E (kk := ?_) | refine z_d (kk := ?_) | refine z_I (kk := fun _ => ?_) | refine z_J (kk := fun _ => ?_) | refine z_K (kk := fun _ => ?_) | refine z_L (kk := fun _ => ?_) | refine z_T (kk := ?_) | refine z_F (kk := ?_) | refine z_k (kk := fun _ _ _ _ _ => ?_) | refine z_w (kk := fun _ _ => ?_) | refine z_s (kk := fun _ _ _ _ => ?_) | refine z_g (kk := ?_) | refine z_h (kk := ?_)))
        (first | refine W.condD rfl (fun hc => ?_) (fun hc => ?_) | refine W.condE rfl (fun hc => ?_) (fun hc => ?_) | refine W.condN rfl (fun hc => ?_) (fun hc => ?_) | refine W.cond rfl (fun hc => ?_) (fun hc => ?_))
        · have hjl : j < (kid l i).length := by omega
          have hkj := hkin j hil hjl
          simp only [Go.Proofs.Ytdiljpnfochndaa.HP.k_] at hkj
          have hb9lt := hB.lt
          (repeat (first | with_reducible refine W.seq ?_ | with_reducible refine Ops.nil ?_ | with_reducible refine W.region ?_ | refine z_p (kk := ?_) | refine z_a (kk := ?_) | refine z_y (kk := ?_) | refine z_n (kk := ?_) | refine z_u (kk := ?_) | with_reducible refine W.skip ?_ | with_reducible refine W.endb ?_ | with_reducible refine W.block ?_ | refine W.exit rfl ?_ | refine z_l (kk := ?_) | refine z_f (kk := ?_) | refine z_M (kk := ?_) | refine z_m (kk := ?_) | refine z_e (kk := ?_) | refine z_E (kk := ?_) | refine z_d (kk := ?_) | refine z_I (kk := fun _ => ?_) | refine z_J (kk := fun _ => ?_) | refine z_K (kk := fun _ => ?_) | refine z_L (kk := fun _ => ?_) | refine z_T (kk := ?_) | refine z_F (kk := ?_) | refine z_k (kk := fun _ _ _ _ _ => ?_) | refine z_w (kk := fun _ _ => ?_) | refine z_s (kk := fun _ _ _ _ => ?_) | refine z_g (kk := ?_) | refine z_h (kk := ?_)))
          refine Ops.pushO (enc := Value.int .i64) rfl rfl rfl rfl rfl rfl rfl rfl rfl rfl rfl rfl (fun _ => rfl) rfl hL (by simp; omega) (fun lv' _ w10 hL10 k10 hn10 => ?_)
          have hB10 := hB.kp k10 (fun e => hne e)
          (repeat (first | with_reducible refine W.seq ?_ | with_reducible refine Ops.nil ?_ | with_reducible refine W.region ?_ | refine z_p (kk := ?_) | refine z_a (kk := ?_) | refine z_y (kk := ?_) | refine z_n (kk := ?_) | refine z_u (kk := ?_) | with_reducible refine W.skip ?_ | with_reducible refine W.endb ?_ | with_reducible refine W.block ?_ | refine W.exit rfl ?_ | refine z_l (kk := ?_) | refine z_f (kk := ?_) | refine z_M (kk := ?_) | refine z_m (kk := ?_) | refine z_e (kk := ?_) | refine z_E (kk := ?_) | refine z_d (kk := ?_) | refine z_I (kk := fun _ => ?_) | refine z_J (kk := fun _ => ?_) | refine z_K (kk := fun _ => ?_) | refine z_L (kk := fun _ => ?_) | refine z_T (kk := ?_) | refine z_F (kk := ?_) | refine z_k (kk := fun _ _ _ _ _ => ?_) | refine z_w (kk := fun _ _ => ?_) | refine z_s (kk := fun _ _ _ _ => ?_) | refine z_g (kk := ?_) | refine z_h (kk := ?_)))
          have h1 : lv'.oneCell' = true := by obtain ⟨A, c, rfl⟩ := hL10.sh; rfl
          refine Ops.st rfl rfl rfl rfl rfl rfl h1 hB10 (by simp) (fun w11 hu11 => ?_)
          have hne2 : lv'.ownBlock ≠ some b9 := fun e => by
            rcases hn10 b9 e with h | h
            · exact hne h
            · omega
          have hL11 := hL10.kp hu11.kp (fun i hi => ⟨by omega, fun e => hne2 (by rw [e, hi])⟩)
          have hB11 := hu11.blk
          rw [← map_take_succ hjl] at hL11
          (repeat (first | with_reducible refine W.seq ?_ | with_reducible refine Ops.nil ?_ | with_reducible refine W.region ?_ | refine z_p (kk := ?_) | refine z_a (kk := ?_) | refine z_y (kk := ?_) | refine z_n (kk := ?_) | refine z_u (kk := ?_) | with_reducible refine W.skip ?_ | with_reducible refine W.endb ?_ | with_reducible refine W.block ?_ | refine W.exit rfl ?_ | refine z_l (kk := ?_) | refine z_f (kk := ?_) | refine z_M (kk := ?_) | refine z_m (kk := ?_) | refine z_e (kk := ?_) | refine z_E (kk := ?_) | refine z_d (kk := ?_) | refine z_I (kk := fun _ => ?_) | refine z_J (kk := fun _ => ?_) | refine z_K (kk := fun _ => ?_) | refine z_L (kk := fun _ => ?_) | refine z_T (kk := ?_) | refine z_F (kk := ?_) | refine z_k (kk := fun _ _ _ _ _ => ?_) | refine z_w (kk := fun _ _ => ?_) | refine z_s (kk := fun _ _ _ _ => ?_) | refine z_g (kk := ?_) | refine z_h (kk := ?_)))
          exact W.endl ⟨_, _, ⟨⟨j + 1, _, rfl, by omega, ⟨_, _, rfl, hks⟩, hL11, hB11, hne2⟩, by omega⟩, (by repeat (first | exact trivial | refine And.intro rfl ?_))⟩
        · have hjl : j = (kid l i).length := by omega
          subst hjl
          rw [List.take_length] at hL
          have hO9 := hO.below hL.bel
          have h1 : lv.oneCell' = true := by obtain ⟨A, c, rfl⟩ := hL.sh; rfl
          (repeat (first | with_reducible refine W.seq ?_ | with_reducible refine Ops.nil ?_ | with_reducible refine W.region ?_ | refine z_p (kk := ?_) | refine z_a (kk := ?_) | refine z_y (kk := ?_) | refine z_n (kk := ?_) | refine z_u (kk := ?_) | with_reducible refine W.skip ?_ | with_reducible refine W.endb ?_ | with_reducible refine W.block ?_ | refine W.exit rfl ?_ | refine z_l (kk := ?_) | refine z_f (kk := ?_) | refine z_M (kk := ?_) | refine z_m (kk := ?_) | refine z_e (kk := ?_) | refine z_E (kk := ?_) | refine z_d (kk := ?_) | refine z_I (kk := fun _ => ?_) | refine z_J (kk := fun _ => ?_) | refine z_K (kk := fun _ => ?_) | refine z_L (kk := fun _ => ?_) | refine z_T (kk := ?_) | refine z_F (kk := ?_) | refine z_k (kk := fun _ _ _ _ _ => ?_) | refine z_w (kk := fun _ _ => ?_) | refine z_s (kk := fun _ _ _ _ => ?_) | refine z_g (kk := ?_) | refine z_h (kk := ?_)))
          refine Ops.ld2 rfl rfl rfl rfl rfl rfl (hB.cell rfl) (by rw [add_lit]; exact hB.cell rfl) ?_
          refine Ops.push2 rfl rfl rfl rfl rfl rfl rfl rfl rfl rfl rfl (fun _ => rfl) h1 rfl hO9.row (by simp; omega) (fun lv' p w10 hrow k10 hn10 => ?_)
          have hO10 := hO9.push (hL.sl (z := (0 : Int))) (fun hp q hq e => by have := hL.ge q hq; have := (hO.row.lt q e).2; omega) hrow k10 hn10
          rw [List.cons_append, show (0 - wor l i) = - wor l i by omega, ← turn_take hil] at hO10
          (repeat (first | with_reducible refine W.seq ?_ | with_reducible refine Ops.nil ?_ | with_reducible refine W.region ?_ | refine z_p (kk := ?_) | refine z_a (kk := ?_) | refine z_y (kk := ?_) | refine z_n (kk := ?_) | refine z_u (kk := ?_) | with_reducible refine W.skip ?_ | with_reducible refine W.endb ?_ | with_reducible refine W.block ?_ | refine W.exit rfl ?_ | refine z_l (kk := ?_) | refine z_f (kk := ?_) | refine z_M (kk := ?_) | refine z_m (kk := ?_) | refine z_e (kk := ?_) | refine z_E (kk := ?_) | refine z_d (kk := ?_) | refine z_I (kk := fun _ => ?_) | refine z_J (kk := fun _ => ?_) | refine z_K (kk := fun _ => ?_) | refine z_L (kk := fun _ => ?_) | refine z_T (kk := ?_) | refine z_F (kk := ?_) | refine z_k (kk := fun _ _ _ _ _ => ?_) | refine z_w (kk := fun _ _ => ?_) | refine z_s (kk := fun _ _ _ _ => ?_) | refine z_g (kk := ?_) | refine z_h (kk := ?_)))
          exact W.endl ⟨_, _, ⟨⟨i + 1, _, _, rfl, by omega, rfl, hO10⟩, by omega⟩, (by repeat (first | exact trivial | refine And.intro rfl ?_))⟩
      · have hil : i = l.length := by omega
        subst hil
        rw [List.take_length] at hO
        (repeat (first | with_reducible refine W.seq ?_ | with_reducible refine Ops.nil ?_ | with_reducible refine W.region ?_ | refine z_p (kk := ?_) | refine z_a (kk := ?_) | refine z_y (kk := ?_) | refine z_n (kk := ?_) | refine z_u (kk := ?_) | with_reducible refine W.skip ?_ | with_reducible refine W.endb ?_ | with_reducible refine W.block ?_ | refine W.exit rfl ?_ | refine z_l (kk := ?_) | refine z_f (kk := ?_) | refine z_M (kk := ?_) | refine z_m (kk := ?_) | refine z_e (kk := ?_) | refine z_E (kk := ?_) | refine z_d (kk := ?_) | refine z_I (kk := fun _ => ?_) | refine z_J (kk := fun _ => ?_) | refine z_K (kk := fun _ => ?_) | refine z_L (kk := fun _ => ?_) | refine z_T (kk := ?_) | refine z_F (kk := ?_) | refine z_k (kk := fun _ _ _ _ _ => ?_) | refine z_w (kk := fun _ _ => ?_) | refine z_s (kk := fun _ _ _ _ => ?_) | refine z_g (kk := ?_) | refine z_h (kk := ?_)))
        exact W.fret rfl ⟨hb4, by simp only [TurnR]; rw [if_neg h60, hg]; exact ⟨ov, cvs, rfl, hO⟩⟩
end Go.Proofs.Ytdiljpnfochndaa
