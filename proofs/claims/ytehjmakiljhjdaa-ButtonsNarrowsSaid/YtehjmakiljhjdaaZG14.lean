/- A part of the walk: what this seat's statements share. -/
import Derived.Test.YtehjmakiljhjdaaZG13
import Derived.Test.YtehjmakiljhjdaaZG6
import Derived.Test.YtehjmakiljhjdaaZG12
import Derived.Test.YtehjmakiljhjdaaZG8
import Derived.Test.YtehjmakiljhjdaaZG9
import Derived.Test.YtehjmakiljhjdaaZG2
import Derived.Test.YtehjmakiljhjdaaZG5
import Derived.ChangeSlices
import Derived.ChangeArms
set_option linter.unusedVariables false
set_option linter.unusedSimpArgs false
set_option linter.unusedSectionVars false
namespace Go.Proofs.Ytehjmakiljhjdaa
open Go Go.RowKit Go.Proofs.Ytehjmakiljhjdaa.VW
attribute [local irreducible] W Ops OrdA VW.Ord OrdX Wi OpsI OrdF
/-- By how much the pair i, j makes assignments dearer. -/
def slackE (c : List (List Int)) (i j : Nat) : Int := ent c i j + restS c (fun k => false || k == (i : Int)) c.length (2 ^ j) - totP c (firstS c c.length 0) c.length
def slRow (c : List (List Int)) (i : Nat) : Nat → List Int
  | 0 => []
  | m + 1 => slRow c i m ++ [slackE c i m]
theorem slRow_len (c : List (List Int)) (i : Nat) : ∀ m, (slRow c i m).length = m
  | 0 => rfl
  | m + 1 => by simp [slRow, slRow_len c i m]
/-- The table, as far as the pair i, j. -/
def slT (c : List (List Int)) (i j q : Nat) : List Int := if q < i then slRow c q c.length else if q = i then slRow c i j else []
def slackS (c : List (List Int)) : List (List Int) := (List.range c.length).map fun q => slRow c q c.length
theorem slT_step {c : List (List Int)} {i j : Nat} : (fun q => if q = i then slT c i j i ++ [slackE c i j] else slT c i j q) = slT c i (j + 1) := by
  funext q
  by_cases e : q = i
  · subst e; simp [slT, slRow]
  · simp [slT, e]
theorem slT_next {c : List (List Int)} {i : Nat} : slT c i c.length = slT c (i + 1) 0 := by
  funext q
  unfold slT
  by_cases e : q = i
  · subst e; simp
  · by_cases h : q < i
    · rw [if_pos h, if_pos (by omega)]
    · rw [if_neg h, if_neg e, if_neg (by omega)]
      by_cases e2 : q = i + 1
      · subst e2; simp [slRow]
      · rw [if_neg e2]
theorem own_r {r m k i : Nat} (h : (Value.slice (some ⟨r, 0, none⟩) m k).ownBlock = some i) : i = r := by cases h; rfl
set_option maxHeartbeats 8000000 in
theorem slack_c {w : World} {cv : Value} {c : List (List Int)} (hM : RowsM w cv c) (hC : Cst c) : Calls Try.prog 58 #[cv] w (Ret fun r w' => ∃ cvs, RW w w' r cvs c.length (fun q => slRow c q c.length)) := by
  have hn7 := hC.n7
  have hp7 := pow7 hn7
  obtain ⟨hlen, hasg⟩ := firstS_Asg (c := c)
  have htb := totP_bd hC (fun i hi => (hasg i hi).1) (by omega) (firstS c c.length 0).length (Nat.le_refl _)
  obtain ⟨Ac, cc, rfl⟩ := hM.sl
  refine calls_W (vs := [_]) Try.func58 rfl (by kernel_rfl) rfl ?_
  (repeat (first | with_reducible refine W.seq ?_ | with_reducible refine Ops.nil ?_ | with_reducible refine W.region ?_ | refine z_p (kk := ?_) | refine z_a (kk := ?_) | refine z_y (kk := ?_) | refine z_n (kk := ?_) | refine z_u (kk := ?_) | with_reducible refine W.skip ?_ | with_reducible refine W.endb ?_ | with_reducible refine W.block ?_ | refine W.exit rfl ?_ | refine z_l (kk := ?_) | refine z_f (kk := ?_) | refine z_M (kk := ?_) | refine z_m (kk := ?_) | refine z_e (kk := ?_) | refine z_E (kk := ?_) | refine z_d (kk := ?_) | refine z_I (kk := fun _ => ?_) | refine z_J (kk := fun _ => ?_) | refine z_K (kk := fun _ => ?_) | refine z_L (kk := fun _ => ?_) | refine z_T (kk := ?_) | refine z_F (kk := ?_) | refine z_r (kk := fun _ _ _ _ => ?_) | refine z_D (kk := ?_) | refine z_B (kk := ?_) | refine z_S (kk := ?_) | refine z_Q (kk := ?_) | refine z_1 (kk := ?_) | refine z_O (kk := ?_) | refine z_2 (kk := ?_) | refine z_g (kk := ?_) | refine z_h (kk := ?_)))
  refine Ops.box rfl rfl rfl rfl (fun w1 b1 hb1 => ?_)
  have hB1 : Blk w1 b1 #[.slice Ac c.length cc] 71 := hb1.at_
  have hl1 : Below w.heap.size w w1 := Below.put (Below.refl _ _) hb1.kp (fun _ e => e.elim)
  (repeat (first | with_reducible refine W.seq ?_ | with_reducible refine Ops.nil ?_ | with_reducible refine W.region ?_ | refine z_p (kk := ?_) | refine z_a (kk := ?_) | refine z_y (kk := ?_) | refine z_n (kk := ?_) | refine z_u (kk := ?_) | with_reducible refine W.skip ?_ | with_reducible refine W.endb ?_ | with_reducible refine W.block ?_ | refine W.exit rfl ?_ | refine z_l (kk := ?_) | refine z_f (kk := ?_) | refine z_M (kk := ?_) | refine z_m (kk := ?_) | refine z_e (kk := ?_) | refine z_E (kk := ?_) | refine z_d (kk := ?_) | refine z_I (kk := fun _ => ?_) | refine z_J (kk := fun _ => ?_) | refine z_K (kk := fun _ => ?_) | refine z_L (kk := fun _ => ?_) | refine z_T (kk := ?_) | refine z_F (kk := ?_) | refine z_r (kk := fun _ _ _ _ => ?_) | refine z_D (kk := ?_) | refine z_B (kk := ?_) | refine z_S (kk := ?_) | refine z_Q (kk := ?_) | refine z_1 (kk := ?_) | refine z_O (kk := ?_) | refine z_2 (kk := ?_) | refine z_g (kk := ?_) | refine z_h (kk := ?_)))
  refine W.ordF (fun w' => Below w1.heap.size w1 w') [0, 1, 2, 3, 4, 5] rfl (by kernel_rfl) rfl (fun _ _ _ h => h) (fun w2 k2 _ => ⟨Kp.below k2 (Nat.le_refl _) (fun _ _ e => e), ?_⟩)
  have hl2 : Below w1.heap.size w1 w2 := Kp.below k2 (Nat.le_refl _) (fun _ _ e => e)
  refine f_D (kk := ?_)
  refine f_D (kk := ?_)
  have htot : ∀ {w' : World} {lv : Value}, Below w1.heap.size w1 w' → SlI w' lv (firstS c c.length 0) → Calls Try.prog 63 #[.slice Ac c.length cc, lv] w' (Ret fun r w'' => r = .int .i64 (totP c (firstS c c.length 0) c.length) ∧ w'' = w') := fun hb hs => by
    have := total_c (hM.below (Below.via hl1 hb)) hC hs (fun i hi => (hasg i hi).1) (by omega)
    rwa [hlen] at this
  have hfst : ∀ {w' : World}, Below w1.heap.size w1 w' → Calls Try.prog 61 #[.slice Ac c.length cc] w' (Ret fun r w'' => OI 3 (Value.int .i64) w' w'' r (firstS c c.length 0)) := fun hb => first_c (hM.below (Below.via hl1 hb)) hC
  refine OrdF.cut (π' := [5]) (L' := [true, true, true, true, true, false]) (fun ρ w5 => ∃ b3, ρ = [(1, .pointer (some ⟨b1, 0, none⟩)), (3, .pointer (some ⟨b3, 0, none⟩)), (12, .int .i64 (totP c (firstS c c.length 0) c.length))] ∧ Below w1.heap.size w1 w5 ∧ w1.heap.size ≤ b3 ∧ Blk w5 b3 #[.int .i64 0] 3) (fun fin => ?_) ?_
  · refine OrdF.both 2 4 (by kernel_rfl) rfl rfl ?_ ?_
    · refine Ops.call rfl rfl rfl rfl rfl (hfst hl2) (fun lv w3 hO3 => Ops.nil (W.endl ⟨Below.via hl2 hO3.bel, ?_⟩))
      have hl3 := Below.via hl2 hO3.bel
      refine OrdF.both 3 4 (by kernel_rfl) rfl rfl ?_ ?_
      · refine Ops.call rfl rfl rfl rfl rfl (htot hl3 hO3.sl) (fun r w4 hR => ?_)
        obtain ⟨rfl, rfl⟩ := hR
        refine Ops.nil (W.endl ⟨hl3, ?_⟩)
        refine OrdF.one 4 (by kernel_rfl) rfl (Ops.alloc rfl rfl rfl rfl (fun w5 b3 hb3 => Ops.nil (W.endl ⟨Below.put hl3 hb3.kp (fun _ e => e.elim), ?_⟩)))
        exact OrdF.sub (by repeat (first | exact trivial | refine And.intro rfl ?_)) (fin _ _ ⟨b3, rfl, Below.put hl3 hb3.kp (fun _ e => e.elim), by have := hb3.r_eq; have := hl3.size; omega, hb3.at_⟩)
      · refine Ops.alloc rfl rfl rfl rfl (fun w4 b3 hb3 => Ops.nil (W.endl ⟨Below.put hl3 hb3.kp (fun _ e => e.elim), ?_⟩))
        have hl4 := Below.put hl3 hb3.kp (fun _ e => e.elim)
        refine OrdF.one 3 (by kernel_rfl) rfl (Ops.call rfl rfl rfl rfl rfl (htot hl4 (Sl.below hO3.sl (Kp.below hb3.kp (Nat.le_refl _) (fun _ _ e => e)))) (fun r w5 hR => ?_))
        obtain ⟨rfl, rfl⟩ := hR
        refine Ops.nil (W.endl ⟨hl4, ?_⟩)
        exact OrdF.sub (by repeat (first | exact trivial | refine And.intro rfl ?_)) (fin _ _ ⟨b3, rfl, hl4, by have := hb3.r_eq; have := hl3.size; omega, hb3.at_⟩)
    · refine Ops.alloc rfl rfl rfl rfl (fun w3 b3 hb3 => Ops.nil (W.endl ⟨Below.put hl2 hb3.kp (fun _ e => e.elim), ?_⟩))
      have hl3 := Below.put hl2 hb3.kp (fun _ e => e.elim)
      refine OrdF.one 2 (by kernel_rfl) rfl (Ops.call rfl rfl rfl rfl rfl (hfst hl3) (fun lv w4 hO4 => Ops.nil (W.endl ⟨Below.via hl3 hO4.bel, ?_⟩)))
      have hl4 := Below.via hl3 hO4.bel
      refine OrdF.one 3 (by kernel_rfl) rfl (Ops.call rfl rfl rfl rfl rfl (htot hl4 hO4.sl) (fun r w5 hR => ?_))
      obtain ⟨rfl, rfl⟩ := hR
      refine Ops.nil (W.endl ⟨hl4, ?_⟩)
      exact OrdF.sub (by repeat (first | exact trivial | refine And.intro rfl ?_)) (fin _ _ ⟨b3, rfl, hl4, by have := hb3.r_eq; have := hl2.size; omega, Blk.kp hb3.at_ (Kp.of_below (S := fun _ => False) hO4.bel) (fun e => e)⟩)
  · rintro ρ w5 ⟨b3, rfl, hl5, hge3, hB3⟩
    refine OrdF.one 5 (by kernel_rfl) rfl (Ops.st rfl rfl rfl rfl rfl rfl rfl hB3 (by simp) (fun w6 hu6 => Ops.nil (W.endl ⟨Below.put hl5 hu6.kp (fun i e => by omega), OrdF.done (by kernel_rfl) ?_⟩)))
    have hl6 := Below.put hl5 hu6.kp (fun i e => by omega)
    have hB3' : Blk w6 b3 #[.int .i64 (totP c (firstS c c.length 0) c.length)] 3 := by simpa using hu6.blk
    have hb06 := Below.via hl1 hl6
    (repeat (first | with_reducible refine W.seq ?_ | with_reducible refine Ops.nil ?_ | with_reducible refine W.region ?_ | refine z_p (kk := ?_) | refine z_a (kk := ?_) | refine z_y (kk := ?_) | refine z_n (kk := ?_) | refine z_u (kk := ?_) | with_reducible refine W.skip ?_ | with_reducible refine W.endb ?_ | with_reducible refine W.block ?_ | refine W.exit rfl ?_ | refine z_l (kk := ?_) | refine z_f (kk := ?_) | refine z_M (kk := ?_) | refine z_m (kk := ?_) | refine z_e (kk := ?_) | refine z_E (kk := ?_) | refine z_d (kk := ?_) | refine z_I (kk := fun _ => ?_) | refine z_J (kk := fun _ => ?_) | refine z_K (kk := fun _ => ?_) | refine z_L (kk := fun _ => ?_) | refine z_T (kk := ?_) | refine z_F (kk := ?_) | refine z_r (kk := fun _ _ _ _ => ?_) | refine z_D (kk := ?_) | refine z_B (kk := ?_) | refine z_S (kk := ?_) | refine z_Q (kk := ?_) | refine z_1 (kk := ?_) | refine z_O (kk := ?_) | refine z_2 (kk := ?_) | refine z_g (kk := ?_) | refine z_h (kk := ?_)))
    refine Ops.mkO (fun v : Value => v) (.slice none 0 0) (w0 := w) (i := c.length) rfl rfl rfl rfl rfl rfl rfl rfl rfl (by omega) rfl hb06 (fun w7 r hO7 k7 hr7 => ?_)
    refine Ops.alloc rfl rfl rfl rfl (fun w8 b4 hb4 => ?_)
    refine Ops.st rfl rfl rfl rfl rfl rfl rfl hb4.at_ (by exact Nat.zero_lt_one) (fun w9 hu9 => ?_)
    have hB4 : Blk w9 b4 #[.slice (some ⟨r, 0, none⟩) c.length c.length] 22 := hu9.blk
    have hrlt : r < w7.heap.size := (hO7.own.lt r rfl).2
    have h4e := hb4.r_eq
    have s6 := hl6.size
    have s7 := k7.size
    have s8 := hb4.kp.size
    have s9 := hu9.size
    have hl9 : Below w6.heap.size w6 w9 := Below.put (Below.put (Below.put (Below.refl _ _) k7 (fun _ e => e.elim)) hb4.kp (fun _ e => e.elim)) hu9.kp (fun i e => by omega)
    have hb09 := Below.via hb06 hl9
    have hB19 : Blk w9 b1 #[.slice Ac c.length cc] 71 := hB1.kp (Kp.of_below (S := fun _ => False) (Below.via hl6 hl9)) (fun e => e)
    have hB39 : Blk w9 b3 #[.int .i64 (totP c (firstS c c.length 0) c.length)] 3 := hB3'.kp (Kp.of_below (S := fun _ => False) hl9) (fun e => e)
    have hb3lt := hB3'.lt
    have hb1lt := hB1.lt
    have hO9 := (hO7.kp hb4.kp (fun i e => e.elim)).kp hu9.kp (fun i e => ⟨by have := hb06.size; omega, fun e2 => by have := own_r e2; omega⟩)
    refine Ops.nil ?_
    refine W.toJ (JW.seq (by exact rfl) ?_)
    (repeat (first | with_reducible refine W.seq ?_ | with_reducible refine Ops.nil ?_ | with_reducible refine W.region ?_ | refine z_p (kk := ?_) | refine z_a (kk := ?_) | refine z_y (kk := ?_) | refine z_n (kk := ?_) | refine z_u (kk := ?_) | with_reducible refine W.skip ?_ | with_reducible refine W.endb ?_ | with_reducible refine W.block ?_ | refine W.exit rfl ?_ | refine z_l (kk := ?_) | refine z_f (kk := ?_) | refine z_M (kk := ?_) | refine z_m (kk := ?_) | refine z_e (kk := ?_) | refine z_E (kk := ?_) | refine z_d (kk := ?_) | refine z_I (kk := fun _ => ?_) | refine z_J (kk := fun _ => ?_) | refine z_K (kk := fun _ => ?_) | refine z_L (kk := fun _ => ?_) | refine z_T (kk := ?_) | refine z_F (kk := ?_) | refine z_r (kk := fun _ _ _ _ => ?_) | refine z_D (kk := ?_) | refine z_B (kk := ?_) | refine z_S (kk := ?_) | refine z_Q (kk := ?_) | refine z_1 (kk := ?_) | refine z_O (kk := ?_) | refine z_2 (kk := ?_) | refine z_g (kk := ?_) | refine z_h (kk := ?_)))
    refine Ops.call rfl rfl rfl rfl rfl pairs_c (fun rv wE hR => ?_)
    obtain ⟨b89, rfl, hB89, hge89, hlE⟩ := hR
    have hbE := Below.via hb09 hlE
    have hB1E := hB19.kp (Kp.of_below (S := fun _ => False) hlE) (fun e => e)
    have hB3E := hB39.kp (Kp.of_below (S := fun _ => False) hlE) (fun e => e)
    have hB4E := hB4.kp (Kp.of_below (S := fun _ => False) hlE) (fun e => e)
    have hOE := hO9.below hlE
    have hB89' : Blk wE b89 #[.slice Ac c.length cc] 71 := hB89
    have hlt89 := hB89'.lt
    have sE := hlE.size
    have h4lt := hB4.lt
    refine Ops.nil (W.endl ?_)
    refine JW.sub (ρ' := [(1, .pointer (some ⟨b1, 0, none⟩)), (3, .pointer (some ⟨b3, 0, none⟩)), (4, .pointer (some ⟨b4, 0, none⟩)), (17, .func (.func 89) #[] #[.pointer (some ⟨b89, 0, none⟩)])]) (by repeat (first | exact trivial | refine And.intro rfl ?_)) ?_
    refine JW.pairs (b1 := b89) (n := c.length) (A := Ac) (cap := cc) (I := fun i j W => ∃ cvs, RW w W (.slice (some ⟨r, 0, none⟩) c.length c.length) cvs c.length (slT c i j) ∧ Blk W b1 #[.slice Ac c.length cc] 71 ∧ Blk W b3 #[.int .i64 (totP c (firstS c c.length 0) c.length)] 3 ∧ Blk W b4 #[.slice (some ⟨r, 0, none⟩) c.length c.length] 22 ∧ Blk W b89 #[.slice Ac c.length cc] 71 ∧ ∀ q, q < c.length → ∀ b, (cvs.getD q undef).ownBlock = some b → wE.heap.size + 2 ≤ b)
      (K := fun _ => False) (by omega) rfl (by exact rfl) (by exact rfl) (by exact rfl) (fun i j W h => by obtain ⟨_, _, _, _, _, h, _⟩ := h; exact h) (fun i W _ h => by rw [← slT_next]; exact h)
      (fun i j W W' h hk => ?_) (fun _ _ h _ => h) ?_ (fun L i j wp hL h hi hj hW => ?_) (fun D w3 hD h hdf => ?_) (fun _ _ _ h _ => h.elim)
    · obtain ⟨cvs, hR, h1, h3, h4, h89, hav⟩ := h
      exact ⟨cvs, hR.kp hk (fun q e => ⟨by have := hbE.size; omega, fun e2 => by have := own_r e2; omega, fun j hj e2 => by have := hav j hj q e2; omega⟩), h1.kp hk (fun e => by omega), h3.kp hk (fun e => by omega), h4.kp hk (fun e => by omega), h89.kp hk (fun e => by omega), hav⟩
    · refine ⟨List.replicate c.length (.slice none 0 0), ⟨hOE, by simp, fun j hj => ?_, fun j hj b hb => ?_⟩, hB1E, hB3E, hB4E, hB89', fun q hq b hb => ?_⟩
      · have e1 : (List.replicate c.length (Value.slice none 0 0)).getD j undef = .slice none 0 0 := by simp [List.getD_eq_getElem?_getD, hj]
        have e2 : slT c 0 0 j = [] := by unfold slT; rw [if_neg (by omega)]; split <;> rfl
        rw [e1, e2]
        exact OI.nil hbE
      · have e1 : (List.replicate c.length (Value.slice none 0 0)).getD j undef = .slice none 0 0 := by simp [List.getD_eq_getElem?_getD, hj]
        rw [e1] at hb
        simp [Value.ownBlock] at hb
      · have e1 : (List.replicate c.length (Value.slice none 0 0)).getD q undef = .slice none 0 0 := by simp [List.getD_eq_getElem?_getD, hq]
        rw [e1] at hb
        simp [Value.ownBlock] at hb
    · refine Wi.seq (Wi.regionN rfl rfl ?_)
      (repeat (first | with_reducible refine W.seq ?_ | with_reducible refine Ops.nil ?_ | with_reducible refine W.region ?_ | refine z_p (kk := ?_) | refine z_a (kk := ?_) | refine z_y (kk := ?_) | refine z_n (kk := ?_) | refine z_u (kk := ?_) | with_reducible refine W.skip ?_ | with_reducible refine W.endb ?_ | with_reducible refine W.block ?_ | refine W.exit rfl ?_ | refine z_l (kk := ?_) | refine z_f (kk := ?_) | refine z_M (kk := ?_) | refine z_m (kk := ?_) | refine z_e (kk := ?_) | refine z_E (kk := ?_) | refine z_d (kk := ?_) | refine z_I (kk := fun _ => ?_) | refine z_J (kk := fun _ => ?_) | refine z_K (kk := fun _ => ?_) | refine z_L (kk := fun _ => ?_) | refine z_T (kk := ?_) | refine z_F (kk := ?_) | refine z_r (kk := fun _ _ _ _ => ?_) | refine z_D (kk := ?_) | refine z_B (kk := ?_) | refine z_S (kk := ?_) | refine z_Q (kk := ?_) | refine z_1 (kk := ?_) | refine z_O (kk := ?_) | refine z_2 (kk := ?_) | refine z_g (kk := ?_) | refine z_h (kk := ?_)))
      refine W.endl ?_
      refine Wi.regionN rfl rfl ?_
      (repeat (first | with_reducible refine W.seq ?_ | with_reducible refine Ops.nil ?_ | with_reducible refine W.region ?_ | refine z_p (kk := ?_) | refine z_a (kk := ?_) | refine z_y (kk := ?_) | refine z_n (kk := ?_) | refine z_u (kk := ?_) | with_reducible refine W.skip ?_ | with_reducible refine W.endb ?_ | with_reducible refine W.block ?_ | refine W.exit rfl ?_ | refine z_l (kk := ?_) | refine z_f (kk := ?_) | refine z_M (kk := ?_) | refine z_m (kk := ?_) | refine z_e (kk := ?_) | refine z_E (kk := ?_) | refine z_d (kk := ?_) | refine z_I (kk := fun _ => ?_) | refine z_J (kk := fun _ => ?_) | refine z_K (kk := fun _ => ?_) | refine z_L (kk := fun _ => ?_) | refine z_T (kk := ?_) | refine z_F (kk := ?_) | refine z_r (kk := fun _ _ _ _ => ?_) | refine z_D (kk := ?_) | refine z_B (kk := ?_) | refine z_S (kk := ?_) | refine z_Q (kk := ?_) | refine z_1 (kk := ?_) | refine z_O (kk := ?_) | refine z_2 (kk := ?_) | refine z_g (kk := ?_) | refine z_h (kk := ?_)))
      refine W.endl ⟨rfl, rfl, fun wq h' hq => ?_⟩
      obtain ⟨cvs, hRW, h1, h3, h4, h89, hav⟩ := h'
      have hbq := hRW.o.bel
      have hcl := hC.len i hi
      have hrow : row c (i : Int) = c.getD i [] := by simp [row]
      rw [← hrow] at hcl
      refine Wi.block (Wi.seq (Wi.ordF (fun w' => Below wq.heap.size wq w') [0, 1, 2, 3, 4, 5, 6, 7, 10, 13, 14, 15, 18, 8, 9, 11, 12, 16, 17, 19, 20] rfl (by kernel_rfl) (by kernel_rfl) (by kernel_rfl) rfl (fun wr kr _ => ⟨Kp.below kr (Nat.le_refl _) (fun _ _ e => e), ?_⟩)))
      have hlr : Below wq.heap.size wq wr := Kp.below kr (Nat.le_refl _) (fun _ _ e => e)
      (repeat (first | refine f_p (kk := ?_) | refine f_a (kk := ?_) | refine f_r (kk := fun _ _ _ _ => ?_) | refine f_K (kk := fun _ => ?_) | refine f_D (kk := ?_) | refine f_S (kk := ?_) | refine f_B (kk := ?_) | refine f_l (kk := ?_)))
      have hrs := restS_bd (g := fun k => false || k == (i : Int)) hC c.length (Nat.le_refl _) (2 ^ j)
      have hij := hC.bd i j hi (by omega)
      have hent : (row c (i : Int)).getD ((j : Int)).toNat 0 = ent c i j := by rw [hrow, Int.toNat_natCast]; rfl
      rw [hent]
      have hent2 : -1000 ≤ ent c i j ∧ ent c i j ≤ 1000 := hij
      refine OrdF.cut (π' := [16, 17, 19, 20]) (L' := [true, true, true, true, true, true, true, true, true, true, true, true, true, true, true, true, false, false, true, false, false]) (fun ρ wx => ∃ b79 b80, ρ = [(1, .pointer (some ⟨b1, 0, none⟩)), (3, .pointer (some ⟨b3, 0, none⟩)), (4, .pointer (some ⟨b4, 0, none⟩)), (5, .int .i64 i), (6, .int .i64 j), (26, .int .i64 (ent c i j)), (27, .slice Ac c.length cc), (28, .map (some b79)), (31, .map (some b80)), (34, .agg #[.int .i64 0, .int .i64 ((2 ^ j : Nat) : Int)]), (37, .int .i64 (totP c (firstS c c.length 0) c.length))] ∧ Below wq.heap.size wq wx ∧ wq.heap.size ≤ b79 ∧ b80 ≠ b79 ∧ MapK Try.prog 82 encP wx b79 (fun _ => none) ∧ MapB wx b80 (fun k => false || k == (i : Int))) (fun fin => ?_) ?_
      · refine OrdF.both 8 9 (by kernel_rfl) rfl rfl ?_ ?_
        · refine Ops.mkK (enc := encP) (kt := 82) rfl rfl rfl (fun wa ba hma hka hba hsa => ?_)
          have hla := Below.put hlr hka (fun _ e => e.elim)
          have sr := hlr.size
          refine Ops.nil (W.endl ⟨hla, ?_⟩)
          refine OrdF.one 9 (by kernel_rfl) rfl (Ops.mkM rfl rfl rfl (fun wb bb hmb hkb hbb => ?_))
          have hlb := Below.put hla hkb (fun _ e => e.elim)
          refine Ops.nil (W.endl ⟨hlb, ?_⟩)
          refine OrdF.one 11 (by kernel_rfl) rfl (Ops.ins rfl rfl rfl rfl rfl rfl rfl rfl hmb (fun wc hmc hkc hsc => ?_))
          have hlc := Below.put hlb hkc (fun k e => by have := hla.size; omega)
          refine Ops.nil (W.endl ⟨hlc, ?_⟩)
          refine f_p (kk := ?_)
          exact OrdF.sub (by repeat (first | exact trivial | refine And.intro rfl ?_)) (fin _ _ ⟨ba, bb, rfl, hlc, by omega, by have := hma.lt; omega, (hma.kp hkb (fun e => e)).kp hkc (fun e => by have := hma.lt; omega), hmc⟩)
        · refine Ops.mkM rfl rfl rfl (fun wa ba hma hka hba => ?_)
          have hla := Below.put hlr hka (fun _ e => e.elim)
          have sr := hlr.size
          have hsa := hma.lt
          refine Ops.nil (W.endl ⟨hla, ?_⟩)
          refine OrdF.both 8 11 (by kernel_rfl) rfl rfl ?_ ?_
          · refine Ops.mkK (enc := encP) (kt := 82) rfl rfl rfl (fun wb bb hmb hkb hbb hsb => ?_)
            have hlb := Below.put hla hkb (fun _ e => e.elim)
            refine Ops.nil (W.endl ⟨hlb, ?_⟩)
            refine OrdF.one 11 (by kernel_rfl) rfl (Ops.ins rfl rfl rfl rfl rfl rfl rfl rfl (hma.kp hkb (fun e => e)) (fun wc hmc hkc hsc => ?_))
            have hlc := Below.put hlb hkc (fun k e => by have := hla.size; omega)
            refine Ops.nil (W.endl ⟨hlc, ?_⟩)
            refine f_p (kk := ?_)
            exact OrdF.sub (by repeat (first | exact trivial | refine And.intro rfl ?_)) (fin _ _ ⟨bb, ba, rfl, hlc, by have := hla.size; omega, by omega, hmb.kp hkc (fun e => by omega), hmc⟩)
          · refine Ops.ins rfl rfl rfl rfl rfl rfl rfl rfl hma (fun wb hmb hkb hsb => ?_)
            have hlb := Below.put hla hkb (fun k e => by omega)
            refine Ops.nil (W.endl ⟨hlb, ?_⟩)
            refine OrdF.re [12, 8, 16, 17, 19, 20] rfl ?_
            refine f_p (kk := ?_)
            refine OrdF.one 8 (by kernel_rfl) rfl (Ops.mkK (enc := encP) (kt := 82) rfl rfl rfl (fun wc bc hmc hkc hbc hsc => ?_))
            have hlc := Below.put hlb hkc (fun _ e => e.elim)
            refine Ops.nil (W.endl ⟨hlc, ?_⟩)
            exact OrdF.sub (by repeat (first | exact trivial | refine And.intro rfl ?_)) (fin _ _ ⟨bc, ba, rfl, hlc, by have := hlb.size; omega, by have := hmb.lt; omega, hmc, hmb.kp hkc (fun e => e)⟩)
      · rintro ρ wx ⟨b79, b80, rfl, hlx, hge79, hne, hm79, hm80⟩
        have hbx := Below.via hbq hlx
        have sq := hbq.size
        refine OrdF.one 16 (by kernel_rfl) rfl (Ops.call rfl rfl rfl rfl rfl (rest0_c (w0 := w) (t := 2 ^ j) (g := fun k => false || k == (i : Int)) hM hC (by omega) (Nat.pow_lt_pow_right (by omega) hj) hbx hm79 (.inr ⟨b80, rfl, hne, hm80⟩)) (fun rr wy hR => ?_))
        obtain ⟨rfl, hky⟩ := hR
        have hly : Below wq.heap.size wq wy := Below.put hlx hky (fun k e => by omega)
        refine Ops.nil (W.endl ⟨hly, ?_⟩)
        have hlen2 : totP c (firstS c c.length 0) (firstS c c.length 0).length = totP c (firstS c c.length 0) c.length := by rw [hlen]
        rw [hlen2] at htb
        (repeat (first | refine f_p (kk := ?_) | refine f_a (kk := ?_) | refine f_r (kk := fun _ _ _ _ => ?_) | refine f_K (kk := fun _ => ?_) | refine f_D (kk := ?_) | refine f_S (kk := ?_) | refine f_B (kk := ?_) | refine f_l (kk := ?_)))
        refine OrdF.done (by kernel_rfl) (W.endl ?_)
        have hRy := hRW.below hly
        have h1y := h1.kp (Kp.of_below (S := fun _ => False) hly) (fun e => e)
        have h3y := h3.kp (Kp.of_below (S := fun _ => False) hly) (fun e => e)
        have h4y := h4.kp (Kp.of_below (S := fun _ => False) hly) (fun e => e)
        have h89y := h89.kp (Kp.of_below (S := fun _ => False) hly) (fun e => e)
        have hl4 := hRy.len
        have hrow2 := hRy.rows i hi
        have hTl : (slT c i j i).length = j := by simp [slT, slRow_len]
        refine Wi.seq (Wi.regionN rfl rfl ?_)
        (repeat (first | with_reducible refine W.seq ?_ | with_reducible refine Ops.nil ?_ | with_reducible refine W.region ?_ | refine z_p (kk := ?_) | refine z_a (kk := ?_) | refine z_y (kk := ?_) | refine z_n (kk := ?_) | refine z_u (kk := ?_) | with_reducible refine W.skip ?_ | with_reducible refine W.endb ?_ | with_reducible refine W.block ?_ | refine W.exit rfl ?_ | refine z_l (kk := ?_) | refine z_f (kk := ?_) | refine z_M (kk := ?_) | refine z_m (kk := ?_) | refine z_e (kk := ?_) | refine z_E (kk := ?_) | refine z_d (kk := ?_) | refine z_I (kk := fun _ => ?_) | refine z_J (kk := fun _ => ?_) | refine z_K (kk := fun _ => ?_) | refine z_L (kk := fun _ => ?_) | refine z_T (kk := ?_) | refine z_F (kk := ?_) | refine z_r (kk := fun _ _ _ _ => ?_) | refine z_D (kk := ?_) | refine z_B (kk := ?_) | refine z_S (kk := ?_) | refine z_Q (kk := ?_) | refine z_1 (kk := ?_) | refine z_O (kk := ?_) | refine z_2 (kk := ?_) | refine z_g (kk := ?_) | refine z_h (kk := ?_)))
        refine Ops.rdBn (enc := fun v : Value => v) (z := undef) rfl rfl rfl rfl rfl rfl (fun _ => rfl) rfl rfl rfl rfl rfl rfl hRy.o.sl (Below.refl _ _) (by omega) (fun _ => ?_)
        (repeat (first | with_reducible refine W.seq ?_ | with_reducible refine Ops.nil ?_ | with_reducible refine W.region ?_ | refine z_p (kk := ?_) | refine z_a (kk := ?_) | refine z_y (kk := ?_) | refine z_n (kk := ?_) | refine z_u (kk := ?_) | with_reducible refine W.skip ?_ | with_reducible refine W.endb ?_ | with_reducible refine W.block ?_ | refine W.exit rfl ?_ | refine z_l (kk := ?_) | refine z_f (kk := ?_) | refine z_M (kk := ?_) | refine z_m (kk := ?_) | refine z_e (kk := ?_) | refine z_E (kk := ?_) | refine z_d (kk := ?_) | refine z_I (kk := fun _ => ?_) | refine z_J (kk := fun _ => ?_) | refine z_K (kk := fun _ => ?_) | refine z_L (kk := fun _ => ?_) | refine z_T (kk := ?_) | refine z_F (kk := ?_) | refine z_r (kk := fun _ _ _ _ => ?_) | refine z_D (kk := ?_) | refine z_B (kk := ?_) | refine z_S (kk := ?_) | refine z_Q (kk := ?_) | refine z_1 (kk := ?_) | refine z_O (kk := ?_) | refine z_2 (kk := ?_) | refine z_g (kk := ?_) | refine z_h (kk := ?_)))
        refine Ops.pushO (enc := Value.int .i64) (u := slackE c i j) rfl rfl rfl rfl rfl rfl rfl rfl rfl rfl rfl rfl (fun _ => rfl) rfl hrow2 (by omega) (fun lv' p wz hOz kz hnz => ?_)
        have hav' : ∀ b, lv'.ownBlock = some b → wE.heap.size + 2 ≤ b := fun b hb => by
          rcases hnz b hb with e | e
          · exact hav i hi b e
          · have := hly.size; omega
        have kz' : ∀ b, b < wE.heap.size → ¬ (cvs.getD i undef).ownBlock = some b := fun b hb e => by have := hav i hi b e; omega
        have h1z := h1y.kp kz (kz' _ (by omega))
        have h3z := h3y.kp kz (kz' _ (by omega))
        have h4z := h4y.kp kz (kz' _ (by omega))
        have h89z := h89y.kp kz (kz' _ (by omega))
        have hov := hRy.o.kp kz (fun b e => ⟨hrow2.ge b e, (hRy.apart i hi b e).1⟩)
        have hr1 : lv'.oneCell' = true := by obtain ⟨A, c, rfl⟩ := hOz.sh; rfl
        (repeat (first | with_reducible refine W.seq ?_ | with_reducible refine Ops.nil ?_ | with_reducible refine W.region ?_ | refine z_p (kk := ?_) | refine z_a (kk := ?_) | refine z_y (kk := ?_) | refine z_n (kk := ?_) | refine z_u (kk := ?_) | with_reducible refine W.skip ?_ | with_reducible refine W.endb ?_ | with_reducible refine W.block ?_ | refine W.exit rfl ?_ | refine z_l (kk := ?_) | refine z_f (kk := ?_) | refine z_M (kk := ?_) | refine z_m (kk := ?_) | refine z_e (kk := ?_) | refine z_E (kk := ?_) | refine z_d (kk := ?_) | refine z_I (kk := fun _ => ?_) | refine z_J (kk := fun _ => ?_) | refine z_K (kk := fun _ => ?_) | refine z_L (kk := fun _ => ?_) | refine z_T (kk := ?_) | refine z_F (kk := ?_) | refine z_r (kk := fun _ _ _ _ => ?_) | refine z_D (kk := ?_) | refine z_B (kk := ?_) | refine z_S (kk := ?_) | refine z_Q (kk := ?_) | refine z_1 (kk := ?_) | refine z_O (kk := ?_) | refine z_2 (kk := ?_) | refine z_g (kk := ?_) | refine z_h (kk := ?_)))
        refine W.endl ?_
        refine Wi.regionN rfl rfl ?_
        (repeat (first | with_reducible refine W.seq ?_ | with_reducible refine Ops.nil ?_ | with_reducible refine W.region ?_ | refine z_p (kk := ?_) | refine z_a (kk := ?_) | refine z_y (kk := ?_) | refine z_n (kk := ?_) | refine z_u (kk := ?_) | with_reducible refine W.skip ?_ | with_reducible refine W.endb ?_ | with_reducible refine W.block ?_ | refine W.exit rfl ?_ | refine z_l (kk := ?_) | refine z_f (kk := ?_) | refine z_M (kk := ?_) | refine z_m (kk := ?_) | refine z_e (kk := ?_) | refine z_E (kk := ?_) | refine z_d (kk := ?_) | refine z_I (kk := fun _ => ?_) | refine z_J (kk := fun _ => ?_) | refine z_K (kk := fun _ => ?_) | refine z_L (kk := fun _ => ?_) | refine z_T (kk := ?_) | refine z_F (kk := ?_) | refine z_r (kk := fun _ _ _ _ => ?_) | refine z_D (kk := ?_) | refine z_B (kk := ?_) | refine z_S (kk := ?_) | refine z_Q (kk := ?_) | refine z_1 (kk := ?_) | refine z_O (kk := ?_) | refine z_2 (kk := ?_) | refine z_g (kk := ?_) | refine z_h (kk := ?_)))
        refine Ops.wrO (enc := fun v : Value => v) (u := lv') rfl rfl rfl rfl rfl rfl rfl rfl rfl rfl rfl rfl (by simp) hr1 hov (by omega) (fun wv p hOv kv hsv => ?_)
        have hstep := hRy.step hi hOz kz hnz hOv kv
        rw [slT_step] at hstep
        (repeat (first | with_reducible refine W.seq ?_ | with_reducible refine Ops.nil ?_ | with_reducible refine W.region ?_ | refine z_p (kk := ?_) | refine z_a (kk := ?_) | refine z_y (kk := ?_) | refine z_n (kk := ?_) | refine z_u (kk := ?_) | with_reducible refine W.skip ?_ | with_reducible refine W.endb ?_ | with_reducible refine W.block ?_ | refine W.exit rfl ?_ | refine z_l (kk := ?_) | refine z_f (kk := ?_) | refine z_M (kk := ?_) | refine z_m (kk := ?_) | refine z_e (kk := ?_) | refine z_E (kk := ?_) | refine z_d (kk := ?_) | refine z_I (kk := fun _ => ?_) | refine z_J (kk := fun _ => ?_) | refine z_K (kk := fun _ => ?_) | refine z_L (kk := fun _ => ?_) | refine z_T (kk := ?_) | refine z_F (kk := ?_) | refine z_r (kk := fun _ _ _ _ => ?_) | refine z_D (kk := ?_) | refine z_B (kk := ?_) | refine z_S (kk := ?_) | refine z_Q (kk := ?_) | refine z_1 (kk := ?_) | refine z_O (kk := ?_) | refine z_2 (kk := ?_) | refine z_g (kk := ?_) | refine z_h (kk := ?_)))
        refine W.endl ⟨?_, .inl ⟨rfl, _, hstep, h1z.kp kv (fun e => by have := own_r e; omega), h3z.kp kv (fun e => by have := own_r e; omega), h4z.kp kv (fun e => by have := own_r e; omega), h89z.kp kv (fun e => by have := own_r e; omega), fun q hq b hb => ?_⟩⟩
        · refine (((Kp.of_below (S := fun _ => False) hly).trans kz).trans kv).mono (fun b hb e => ?_)
          rcases e with (e | e) | e
          · exact e.elim
          · have := hav i hi b e; exact ⟨by omega, by omega⟩
          · have := own_r e; exact ⟨by omega, by omega⟩
        · by_cases e : q = i
          · subst e
            rw [setV_eq (by omega)] at hb
            exact hav' b hb
          · rw [setV_ne (fun h => e h.symm)] at hb
            exact hav q hq b hb
    · obtain ⟨cvs, hR, h1, h3, h4, h89, hav⟩ := h
      have hR' : RW w w3 (.slice (some ⟨r, 0, none⟩) c.length c.length) cvs c.length (fun q => slRow c q c.length) := ⟨hR.o, hR.len, fun j hj => by
        have := hR.rows j hj
        unfold slT at this
        rwa [if_pos hj] at this, hR.apart⟩
      (repeat (first | with_reducible refine W.seq ?_ | with_reducible refine Ops.nil ?_ | with_reducible refine W.region ?_ | refine z_p (kk := ?_) | refine z_a (kk := ?_) | refine z_y (kk := ?_) | refine z_n (kk := ?_) | refine z_u (kk := ?_) | with_reducible refine W.skip ?_ | with_reducible refine W.endb ?_ | with_reducible refine W.block ?_ | refine W.exit rfl ?_ | refine z_l (kk := ?_) | refine z_f (kk := ?_) | refine z_M (kk := ?_) | refine z_m (kk := ?_) | refine z_e (kk := ?_) | refine z_E (kk := ?_) | refine z_d (kk := ?_) | refine z_I (kk := fun _ => ?_) | refine z_J (kk := fun _ => ?_) | refine z_K (kk := fun _ => ?_) | refine z_L (kk := fun _ => ?_) | refine z_T (kk := ?_) | refine z_F (kk := ?_) | refine z_r (kk := fun _ _ _ _ => ?_) | refine z_D (kk := ?_) | refine z_B (kk := ?_) | refine z_S (kk := ?_) | refine z_Q (kk := ?_) | refine z_1 (kk := ?_) | refine z_O (kk := ?_) | refine z_2 (kk := ?_) | refine z_g (kk := ?_) | refine z_h (kk := ?_)))
      refine W.ret ⟨rfl, hdf, _, fun a hr => run_results hr rfl, ?_⟩
      exact ⟨cvs, hR'.kp (kp_putObj (r := D) (.deferred none)) (fun b e => ⟨by have := hbE.size; omega, fun e2 => by have := own_r e2; omega, fun j hj e2 => by have := hav j hj b e2; omega⟩)⟩
theorem Slack_c {w : World} {cv : Value} {c : List (List Int)} (hM : RowsM w cv c) : Calls Try.prog 30 #[cv] w (Ret fun r w' => (costsB c = false → r = .tuple #[.slice none 0 0, .int .i64 2] ∧ Below w.heap.size w w') ∧ (costsB c = true → ∃ v cvs, r = .tuple #[v, .int .i64 0] ∧ RW w w' v cvs c.length (fun q => slRow c q c.length))) := by
  obtain ⟨Ac, cc, rfl⟩ := hM.sl
  refine calls_W (vs := [_]) Try.func30 rfl (by kernel_rfl) rfl ?_
  (repeat (first | with_reducible refine W.seq ?_ | with_reducible refine Ops.nil ?_ | with_reducible refine W.region ?_ | refine z_p (kk := ?_) | refine z_a (kk := ?_) | refine z_y (kk := ?_) | refine z_n (kk := ?_) | refine z_u (kk := ?_) | with_reducible refine W.skip ?_ | with_reducible refine W.endb ?_ | with_reducible refine W.block ?_ | refine W.exit rfl ?_ | refine z_l (kk := ?_) | refine z_f (kk := ?_) | refine z_M (kk := ?_) | refine z_m (kk := ?_) | refine z_e (kk := ?_) | refine z_E (kk := ?_) | refine z_d (kk := ?_) | refine z_I (kk := fun _ => ?_) | refine z_J (kk := fun _ => ?_) | refine z_K (kk := fun _ => ?_) | refine z_L (kk := fun _ => ?_) | refine z_T (kk := ?_) | refine z_F (kk := ?_) | refine z_r (kk := fun _ _ _ _ => ?_) | refine z_D (kk := ?_) | refine z_B (kk := ?_) | refine z_S (kk := ?_) | refine z_Q (kk := ?_) | refine z_1 (kk := ?_) | refine z_O (kk := ?_) | refine z_2 (kk := ?_) | refine z_g (kk := ?_) | refine z_h (kk := ?_)))
  refine Ops.call rfl rfl rfl rfl rfl (areCosts_c hM) (fun r w1 hR => ?_)
  obtain ⟨rfl, hb1⟩ := hR
  cases hcB : costsB c with
  | false =>
    (repeat (first | with_reducible refine W.seq ?_ | with_reducible refine Ops.nil ?_ | with_reducible refine W.region ?_ | refine z_p (kk := ?_) | refine z_a (kk := ?_) | refine z_y (kk := ?_) | refine z_n (kk := ?_) | refine z_u (kk := ?_) | with_reducible refine W.skip ?_ | with_reducible refine W.endb ?_ | with_reducible refine W.block ?_ | refine W.exit rfl ?_ | refine z_l (kk := ?_) | refine z_f (kk := ?_) | refine z_M (kk := ?_) | refine z_m (kk := ?_) | refine z_e (kk := ?_) | refine z_E (kk := ?_) | refine z_d (kk := ?_) | refine z_I (kk := fun _ => ?_) | refine z_J (kk := fun _ => ?_) | refine z_K (kk := fun _ => ?_) | refine z_L (kk := fun _ => ?_) | refine z_T (kk := ?_) | refine z_F (kk := ?_) | refine z_r (kk := fun _ _ _ _ => ?_) | refine z_D (kk := ?_) | refine z_B (kk := ?_) | refine z_S (kk := ?_) | refine z_Q (kk := ?_) | refine z_1 (kk := ?_) | refine z_O (kk := ?_) | refine z_2 (kk := ?_) | refine z_g (kk := ?_) | refine z_h (kk := ?_)))
    refine W.condT rfl (by first | rfl | assumption | (simp only [bnf] <;> omega) | (simp only [*, bnf]; done) | fail) ?_
    (repeat (first | with_reducible refine W.seq ?_ | with_reducible refine Ops.nil ?_ | with_reducible refine W.region ?_ | refine z_p (kk := ?_) | refine z_a (kk := ?_) | refine z_y (kk := ?_) | refine z_n (kk := ?_) | refine z_u (kk := ?_) | with_reducible refine W.skip ?_ | with_reducible refine W.endb ?_ | with_reducible refine W.block ?_ | refine W.exit rfl ?_ | refine z_l (kk := ?_) | refine z_f (kk := ?_) | refine z_M (kk := ?_) | refine z_m (kk := ?_) | refine z_e (kk := ?_) | refine z_E (kk := ?_) | refine z_d (kk := ?_) | refine z_I (kk := fun _ => ?_) | refine z_J (kk := fun _ => ?_) | refine z_K (kk := fun _ => ?_) | refine z_L (kk := fun _ => ?_) | refine z_T (kk := ?_) | refine z_F (kk := ?_) | refine z_r (kk := fun _ _ _ _ => ?_) | refine z_D (kk := ?_) | refine z_B (kk := ?_) | refine z_S (kk := ?_) | refine z_Q (kk := ?_) | refine z_1 (kk := ?_) | refine z_O (kk := ?_) | refine z_2 (kk := ?_) | refine z_g (kk := ?_) | refine z_h (kk := ?_)))
    exact W.fret rfl ⟨fun _ => ⟨rfl, hb1⟩, fun h => by cases h⟩
  | true =>
    (repeat (first | with_reducible refine W.seq ?_ | with_reducible refine Ops.nil ?_ | with_reducible refine W.region ?_ | refine z_p (kk := ?_) | refine z_a (kk := ?_) | refine z_y (kk := ?_) | refine z_n (kk := ?_) | refine z_u (kk := ?_) | with_reducible refine W.skip ?_ | with_reducible refine W.endb ?_ | with_reducible refine W.block ?_ | refine W.exit rfl ?_ | refine z_l (kk := ?_) | refine z_f (kk := ?_) | refine z_M (kk := ?_) | refine z_m (kk := ?_) | refine z_e (kk := ?_) | refine z_E (kk := ?_) | refine z_d (kk := ?_) | refine z_I (kk := fun _ => ?_) | refine z_J (kk := fun _ => ?_) | refine z_K (kk := fun _ => ?_) | refine z_L (kk := fun _ => ?_) | refine z_T (kk := ?_) | refine z_F (kk := ?_) | refine z_r (kk := fun _ _ _ _ => ?_) | refine z_D (kk := ?_) | refine z_B (kk := ?_) | refine z_S (kk := ?_) | refine z_Q (kk := ?_) | refine z_1 (kk := ?_) | refine z_O (kk := ?_) | refine z_2 (kk := ?_) | refine z_g (kk := ?_) | refine z_h (kk := ?_)))
    refine W.condF rfl (by first | rfl | assumption | (simp only [bnf] <;> omega) | (simp only [*, bnf]; done) | fail) ?_
    (repeat (first | with_reducible refine W.seq ?_ | with_reducible refine Ops.nil ?_ | with_reducible refine W.region ?_ | refine z_p (kk := ?_) | refine z_a (kk := ?_) | refine z_y (kk := ?_) | refine z_n (kk := ?_) | refine z_u (kk := ?_) | with_reducible refine W.skip ?_ | with_reducible refine W.endb ?_ | with_reducible refine W.block ?_ | refine W.exit rfl ?_ | refine z_l (kk := ?_) | refine z_f (kk := ?_) | refine z_M (kk := ?_) | refine z_m (kk := ?_) | refine z_e (kk := ?_) | refine z_E (kk := ?_) | refine z_d (kk := ?_) | refine z_I (kk := fun _ => ?_) | refine z_J (kk := fun _ => ?_) | refine z_K (kk := fun _ => ?_) | refine z_L (kk := fun _ => ?_) | refine z_T (kk := ?_) | refine z_F (kk := ?_) | refine z_r (kk := fun _ _ _ _ => ?_) | refine z_D (kk := ?_) | refine z_B (kk := ?_) | refine z_S (kk := ?_) | refine z_Q (kk := ?_) | refine z_1 (kk := ?_) | refine z_O (kk := ?_) | refine z_2 (kk := ?_) | refine z_g (kk := ?_) | refine z_h (kk := ?_)))
    refine Ops.call rfl rfl rfl rfl rfl (slack_c (hM.below hb1) (costs_iff.1 hcB)) (fun v w2 hR => ?_)
    obtain ⟨cvs, hR⟩ := hR
    (repeat (first | with_reducible refine W.seq ?_ | with_reducible refine Ops.nil ?_ | with_reducible refine W.region ?_ | refine z_p (kk := ?_) | refine z_a (kk := ?_) | refine z_y (kk := ?_) | refine z_n (kk := ?_) | refine z_u (kk := ?_) | with_reducible refine W.skip ?_ | with_reducible refine W.endb ?_ | with_reducible refine W.block ?_ | refine W.exit rfl ?_ | refine z_l (kk := ?_) | refine z_f (kk := ?_) | refine z_M (kk := ?_) | refine z_m (kk := ?_) | refine z_e (kk := ?_) | refine z_E (kk := ?_) | refine z_d (kk := ?_) | refine z_I (kk := fun _ => ?_) | refine z_J (kk := fun _ => ?_) | refine z_K (kk := fun _ => ?_) | refine z_L (kk := fun _ => ?_) | refine z_T (kk := ?_) | refine z_F (kk := ?_) | refine z_r (kk := fun _ _ _ _ => ?_) | refine z_D (kk := ?_) | refine z_B (kk := ?_) | refine z_S (kk := ?_) | refine z_Q (kk := ?_) | refine z_1 (kk := ?_) | refine z_O (kk := ?_) | refine z_2 (kk := ?_) | refine z_g (kk := ?_) | refine z_h (kk := ?_)))
    exact W.fret rfl ⟨fun h => (by cases h), fun _ => ⟨v, cvs, rfl, hR.up hb1⟩⟩
end Go.Proofs.Ytehjmakiljhjdaa
namespace Go.Proofs.Ytehjmakiljhjdaa
open Go Go.RowKit Go.Proofs.Ytehjmakiljhjdaa.VW
attribute [local irreducible] W Ops OrdA VW.Ord OrdX
theorem lit1 {w w' : World} {r : Nat} {x : Int} (h : Mk w w' r (.cells #[.int .i64 x] 3)) : SlI w' (.slice (some ⟨r, 0, none⟩) 1 1) [x] := own_sl (e := 3) (own_one h)
theorem lit2 {w w' : World} {r : Nat} {x y : Int} (h : Mk w w' r (.cells #[.int .i64 x, .int .i64 y] 3)) : SlI w' (.slice (some ⟨r, 0, none⟩) 2 2) [x, y] := by
  refine ⟨by simp, _, _, rfl, fun _ => ⟨_, rfl, fun j hj => ?_⟩⟩
  rw [add_lit]
  have hB : Blk w' r #[.int .i64 x, .int .i64 y] 3 := h.at_
  match j, hj with
  | 0, _ => exact hB.cell rfl
  | 1, _ => exact hB.cell rfl
theorem lit2R {w w' : World} {r : Nat} {v1 v2 : Value} {x y : List Int} (h : Mk w w' r (.cells #[v1, v2] 23)) (h1 : SlI w' v1 x) (h2 : SlI w' v2 y) : RowsM w' (.slice (some ⟨r, 0, none⟩) 2 2) [x, y] := by
  refine ⟨by simp, _, _, [v1, v2], rfl, fun _ => ⟨_, rfl, fun j hj => ?_⟩, fun j hj => ?_⟩
  · rw [add_lit]
    have hB : Blk w' r #[v1, v2] 23 := h.at_
    match j, hj with
    | 0, _ => exact hB.cell rfl
    | 1, _ => exact hB.cell rfl
  · match j, hj with
    | 0, _ => exact h1
    | 1, _ => exact h2
theorem Mk.bel {w w' : World} {r : Nat} {o : Obj} (h : Mk w w' r o) : Below w.heap.size w w' := Below.put (Below.refl _ _) h.kp (fun _ e => e.elim)
abbrev c0 : List (List Int) := [[1, 2], [3, 5]]
theorem c0_costs : costsB c0 = true := by decide +kernel
theorem c0_first : firstS c0 c0.length 0 = [1, 0] := by decide +kernel
theorem c0_slack : (List.range c0.length).map (fun q => slRow c0 q c0.length) = [[1, 0], [0, 1]] := by decide +kernel
theorem c0_pays : paysS c0 (firstS c0 c0.length 0) c0.length = [0, 1] := by decide +kernel
theorem c0_block : BlkS c0 2 [1] := by decide +kernel
theorem c0_fit1 : fitsS c0 1 c0.length [] = none := by decide +kernel
theorem c0_fit2 : fitsS c0 2 c0.length [] = none := by decide +kernel
theorem c0_fit3 : fitsS c0 3 c0.length [] = some [1, 0] := by decide +kernel
theorem c0_nar {a b : List Int} {x : Int} (h : NarS c0 a x b) : a = [1, 0] ∧ x = 3 := by
  have hm : x = 1 ∨ x = 2 ∨ x = 3 ∨ x = 5 := by have := h.mem; simpa using this
  rcases hm with rfl | rfl | rfl | rfl
  · have := h.fit; rw [c0_fit1] at this; cases this
  · have := h.fit; rw [c0_fit2] at this; cases this
  · have := h.fit; rw [c0_fit3] at this; cases this; exact ⟨rfl, rfl⟩
  · have := h.least 3 (by simp) (by omega); rw [c0_fit3] at this; cases this
set_option maxHeartbeats 2000000 in
theorem awake_c (w : World) : Calls Try.prog 21 #[] w (Ret fun r w' => r = .bool true ∧ Below w.heap.size w w') := by
  refine calls_W (vs := []) Try.func21 rfl (by kernel_rfl) rfl ?_
  (repeat (first | with_reducible refine W.seq ?_ | with_reducible refine Ops.nil ?_ | with_reducible refine W.region ?_ | refine z_p (kk := ?_) | refine z_a (kk := ?_) | refine z_y (kk := ?_) | refine z_n (kk := ?_) | refine z_u (kk := ?_) | with_reducible refine W.skip ?_ | with_reducible refine W.endb ?_ | with_reducible refine W.block ?_ | refine W.exit rfl ?_ | refine z_l (kk := ?_) | refine z_f (kk := ?_) | refine z_M (kk := ?_) | refine z_m (kk := ?_) | refine z_e (kk := ?_) | refine z_E (kk := ?_) | refine z_d (kk := ?_) | refine z_I (kk := fun _ => ?_) | refine z_J (kk := fun _ => ?_) | refine z_K (kk := fun _ => ?_) | refine z_L (kk := fun _ => ?_) | refine z_T (kk := ?_) | refine z_F (kk := ?_) | refine z_r (kk := fun _ _ _ _ => ?_) | refine z_D (kk := ?_) | refine z_g (kk := ?_) | refine z_h (kk := ?_)))
  refine Ops.bs2 rfl rfl rfl rfl rfl rfl rfl rfl rfl rfl rfl (fun w1 r1 hM1 => ?_)
  (repeat (first | with_reducible refine W.seq ?_ | with_reducible refine Ops.nil ?_ | with_reducible refine W.region ?_ | refine z_p (kk := ?_) | refine z_a (kk := ?_) | refine z_y (kk := ?_) | refine z_n (kk := ?_) | refine z_u (kk := ?_) | with_reducible refine W.skip ?_ | with_reducible refine W.endb ?_ | with_reducible refine W.block ?_ | refine W.exit rfl ?_ | refine z_l (kk := ?_) | refine z_f (kk := ?_) | refine z_M (kk := ?_) | refine z_m (kk := ?_) | refine z_e (kk := ?_) | refine z_E (kk := ?_) | refine z_d (kk := ?_) | refine z_I (kk := fun _ => ?_) | refine z_J (kk := fun _ => ?_) | refine z_K (kk := fun _ => ?_) | refine z_L (kk := fun _ => ?_) | refine z_T (kk := ?_) | refine z_F (kk := ?_) | refine z_r (kk := fun _ _ _ _ => ?_) | refine z_D (kk := ?_) | refine z_g (kk := ?_) | refine z_h (kk := ?_)))
  refine Ops.bs2 rfl rfl rfl rfl rfl rfl rfl rfl rfl rfl rfl (fun w2 r2 hM2 => ?_)
  (repeat (first | with_reducible refine W.seq ?_ | with_reducible refine Ops.nil ?_ | with_reducible refine W.region ?_ | refine z_p (kk := ?_) | refine z_a (kk := ?_) | refine z_y (kk := ?_) | refine z_n (kk := ?_) | refine z_u (kk := ?_) | with_reducible refine W.skip ?_ | with_reducible refine W.endb ?_ | with_reducible refine W.block ?_ | refine W.exit rfl ?_ | refine z_l (kk := ?_) | refine z_f (kk := ?_) | refine z_M (kk := ?_) | refine z_m (kk := ?_) | refine z_e (kk := ?_) | refine z_E (kk := ?_) | refine z_d (kk := ?_) | refine z_I (kk := fun _ => ?_) | refine z_J (kk := fun _ => ?_) | refine z_K (kk := fun _ => ?_) | refine z_L (kk := fun _ => ?_) | refine z_T (kk := ?_) | refine z_F (kk := ?_) | refine z_r (kk := fun _ _ _ _ => ?_) | refine z_D (kk := ?_) | refine z_g (kk := ?_) | refine z_h (kk := ?_)))
  refine Ops.bs2 rfl rfl rfl rfl rfl rfl rfl rfl rfl rfl rfl (fun w3 r3 hM3 => ?_)
  have hM : RowsM w3 (.slice (some ⟨r3, 0, none⟩) 2 2) c0 := lit2R hM3 (Sl.below (lit2 hM1) (Below.via (Mk.bel hM2) (Mk.bel hM3))) (Sl.below (lit2 hM2) (Mk.bel hM3))
  have hb3 : Below w.heap.size w w3 := Below.via (Mk.bel hM1) (Below.via (Mk.bel hM2) (Mk.bel hM3))
  have hC : Cst c0 := costs_iff.1 c0_costs
  (repeat (first | with_reducible refine W.seq ?_ | with_reducible refine Ops.nil ?_ | with_reducible refine W.region ?_ | refine z_p (kk := ?_) | refine z_a (kk := ?_) | refine z_y (kk := ?_) | refine z_n (kk := ?_) | refine z_u (kk := ?_) | with_reducible refine W.skip ?_ | with_reducible refine W.endb ?_ | with_reducible refine W.block ?_ | refine W.exit rfl ?_ | refine z_l (kk := ?_) | refine z_f (kk := ?_) | refine z_M (kk := ?_) | refine z_m (kk := ?_) | refine z_e (kk := ?_) | refine z_E (kk := ?_) | refine z_d (kk := ?_) | refine z_I (kk := fun _ => ?_) | refine z_J (kk := fun _ => ?_) | refine z_K (kk := fun _ => ?_) | refine z_L (kk := fun _ => ?_) | refine z_T (kk := ?_) | refine z_F (kk := ?_) | refine z_r (kk := fun _ _ _ _ => ?_) | refine z_D (kk := ?_) | refine z_g (kk := ?_) | refine z_h (kk := ?_)))
  refine Ops.call rfl rfl rfl rfl rfl (Best_c hM) (fun r w4 hR => ?_)
  obtain ⟨hb4, -, hR⟩ := hR
  obtain ⟨av, uv, vv, u, v, rfl, ha, hu, hv, hP⟩ := hR c0_costs
  rw [c0_first] at ha hP
  have hM4 := hM.below hb4
  (repeat (first | with_reducible refine W.seq ?_ | with_reducible refine Ops.nil ?_ | with_reducible refine W.region ?_ | refine z_p (kk := ?_) | refine z_a (kk := ?_) | refine z_y (kk := ?_) | refine z_n (kk := ?_) | refine z_u (kk := ?_) | with_reducible refine W.skip ?_ | with_reducible refine W.endb ?_ | with_reducible refine W.block ?_ | refine W.exit rfl ?_ | refine z_l (kk := ?_) | refine z_f (kk := ?_) | refine z_M (kk := ?_) | refine z_m (kk := ?_) | refine z_e (kk := ?_) | refine z_E (kk := ?_) | refine z_d (kk := ?_) | refine z_I (kk := fun _ => ?_) | refine z_J (kk := fun _ => ?_) | refine z_K (kk := fun _ => ?_) | refine z_L (kk := fun _ => ?_) | refine z_T (kk := ?_) | refine z_F (kk := ?_) | refine z_r (kk := fun _ _ _ _ => ?_) | refine z_D (kk := ?_) | refine z_g (kk := ?_) | refine z_h (kk := ?_)))
  refine Ops.call rfl rfl rfl rfl rfl (Slack_c hM4) (fun r w5 hR => ?_)
  obtain ⟨-, hR⟩ := hR
  obtain ⟨sv, scv, rfl, hS⟩ := hR c0_costs
  have hb5 := hS.o.bel
  have hM5 := hM4.below hb5
  (repeat (first | with_reducible refine W.seq ?_ | with_reducible refine Ops.nil ?_ | with_reducible refine W.region ?_ | refine z_p (kk := ?_) | refine z_a (kk := ?_) | refine z_y (kk := ?_) | refine z_n (kk := ?_) | refine z_u (kk := ?_) | with_reducible refine W.skip ?_ | with_reducible refine W.endb ?_ | with_reducible refine W.block ?_ | refine W.exit rfl ?_ | refine z_l (kk := ?_) | refine z_f (kk := ?_) | refine z_M (kk := ?_) | refine z_m (kk := ?_) | refine z_e (kk := ?_) | refine z_E (kk := ?_) | refine z_d (kk := ?_) | refine z_I (kk := fun _ => ?_) | refine z_J (kk := fun _ => ?_) | refine z_K (kk := fun _ => ?_) | refine z_L (kk := fun _ => ?_) | refine z_T (kk := ?_) | refine z_F (kk := ?_) | refine z_r (kk := fun _ _ _ _ => ?_) | refine z_D (kk := ?_) | refine z_g (kk := ?_) | refine z_h (kk := ?_)))
  refine Ops.call rfl rfl rfl rfl rfl (Narrow_c hM5) (fun r w6 hR => ?_)
  obtain ⟨hb6, -, hR⟩ := hR
  obtain ⟨nv, x, bv, na, nb, rfl, hna, hnb, hN⟩ := hR c0_costs
  obtain ⟨rfl, rfl⟩ := c0_nar hN
  have hM6 := hM5.below hb6
  (repeat (first | with_reducible refine W.seq ?_ | with_reducible refine Ops.nil ?_ | with_reducible refine W.region ?_ | refine z_p (kk := ?_) | refine z_a (kk := ?_) | refine z_y (kk := ?_) | refine z_n (kk := ?_) | refine z_u (kk := ?_) | with_reducible refine W.skip ?_ | with_reducible refine W.endb ?_ | with_reducible refine W.block ?_ | refine W.exit rfl ?_ | refine z_l (kk := ?_) | refine z_f (kk := ?_) | refine z_M (kk := ?_) | refine z_m (kk := ?_) | refine z_e (kk := ?_) | refine z_E (kk := ?_) | refine z_d (kk := ?_) | refine z_I (kk := fun _ => ?_) | refine z_J (kk := fun _ => ?_) | refine z_K (kk := fun _ => ?_) | refine z_L (kk := fun _ => ?_) | refine z_T (kk := ?_) | refine z_F (kk := ?_) | refine z_r (kk := fun _ _ _ _ => ?_) | refine z_D (kk := ?_) | refine z_g (kk := ?_) | refine z_h (kk := ?_)))
  refine Ops.call rfl rfl rfl rfl rfl (pays_c hM6) (fun r w7 hR => ?_)
  obtain ⟨-, hR⟩ := hR
  obtain ⟨pv, rfl, hp⟩ := hR c0_costs
  rw [c0_pays] at hp
  have hb7 := hp.bel
  have hM7 := hM6.below hb7
  (repeat (first | with_reducible refine W.seq ?_ | with_reducible refine Ops.nil ?_ | with_reducible refine W.region ?_ | refine z_p (kk := ?_) | refine z_a (kk := ?_) | refine z_y (kk := ?_) | refine z_n (kk := ?_) | refine z_u (kk := ?_) | with_reducible refine W.skip ?_ | with_reducible refine W.endb ?_ | with_reducible refine W.block ?_ | refine W.exit rfl ?_ | refine z_l (kk := ?_) | refine z_f (kk := ?_) | refine z_M (kk := ?_) | refine z_m (kk := ?_) | refine z_e (kk := ?_) | refine z_E (kk := ?_) | refine z_d (kk := ?_) | refine z_I (kk := fun _ => ?_) | refine z_J (kk := fun _ => ?_) | refine z_K (kk := fun _ => ?_) | refine z_L (kk := fun _ => ?_) | refine z_T (kk := ?_) | refine z_F (kk := ?_) | refine z_r (kk := fun _ _ _ _ => ?_) | refine z_D (kk := ?_) | refine z_g (kk := ?_) | refine z_h (kk := ?_)))
  refine Ops.bs1 rfl rfl rfl rfl rfl rfl rfl rfl rfl (fun w8 r8 hM8 => ?_)
  have hb8 := Mk.bel hM8
  (repeat (first | with_reducible refine W.seq ?_ | with_reducible refine Ops.nil ?_ | with_reducible refine W.region ?_ | refine z_p (kk := ?_) | refine z_a (kk := ?_) | refine z_y (kk := ?_) | refine z_n (kk := ?_) | refine z_u (kk := ?_) | with_reducible refine W.skip ?_ | with_reducible refine W.endb ?_ | with_reducible refine W.block ?_ | refine W.exit rfl ?_ | refine z_l (kk := ?_) | refine z_f (kk := ?_) | refine z_M (kk := ?_) | refine z_m (kk := ?_) | refine z_e (kk := ?_) | refine z_E (kk := ?_) | refine z_d (kk := ?_) | refine z_I (kk := fun _ => ?_) | refine z_J (kk := fun _ => ?_) | refine z_K (kk := fun _ => ?_) | refine z_L (kk := fun _ => ?_) | refine z_T (kk := ?_) | refine z_F (kk := ?_) | refine z_r (kk := fun _ _ _ _ => ?_) | refine z_D (kk := ?_) | refine z_g (kk := ?_) | refine z_h (kk := ?_)))
  refine Ops.call rfl rfl rfl rfl rfl (IsBlock_c (hM7.below hb8) (lit1 hM8)) (fun r w9 hR => ?_)
  obtain ⟨rfl, hb9⟩ := hR
  rw [c0_costs, if_pos rfl, decide_eq_true c0_block]
  have hb79 := Below.via hb8 hb9
  have hb69 := Below.via hb7 hb79
  have hb59 := Below.via hb6 hb69
  have hb49 := Below.via hb5 hb59
  (repeat (first | with_reducible refine W.seq ?_ | with_reducible refine Ops.nil ?_ | with_reducible refine W.region ?_ | refine z_p (kk := ?_) | refine z_a (kk := ?_) | refine z_y (kk := ?_) | refine z_n (kk := ?_) | refine z_u (kk := ?_) | with_reducible refine W.skip ?_ | with_reducible refine W.endb ?_ | with_reducible refine W.block ?_ | refine W.exit rfl ?_ | refine z_l (kk := ?_) | refine z_f (kk := ?_) | refine z_M (kk := ?_) | refine z_m (kk := ?_) | refine z_e (kk := ?_) | refine z_E (kk := ?_) | refine z_d (kk := ?_) | refine z_I (kk := fun _ => ?_) | refine z_J (kk := fun _ => ?_) | refine z_K (kk := fun _ => ?_) | refine z_L (kk := fun _ => ?_) | refine z_T (kk := ?_) | refine z_F (kk := ?_) | refine z_r (kk := fun _ _ _ _ => ?_) | refine z_D (kk := ?_) | refine z_g (kk := ?_) | refine z_h (kk := ?_)))
  refine Ops.bs2 rfl rfl rfl rfl rfl rfl rfl rfl rfl rfl rfl (fun w10 r10 hM10 => ?_)
  have hb10 := Mk.bel hM10
  (repeat (first | with_reducible refine W.seq ?_ | with_reducible refine Ops.nil ?_ | with_reducible refine W.region ?_ | refine z_p (kk := ?_) | refine z_a (kk := ?_) | refine z_y (kk := ?_) | refine z_n (kk := ?_) | refine z_u (kk := ?_) | with_reducible refine W.skip ?_ | with_reducible refine W.endb ?_ | with_reducible refine W.block ?_ | refine W.exit rfl ?_ | refine z_l (kk := ?_) | refine z_f (kk := ?_) | refine z_M (kk := ?_) | refine z_m (kk := ?_) | refine z_e (kk := ?_) | refine z_E (kk := ?_) | refine z_d (kk := ?_) | refine z_I (kk := fun _ => ?_) | refine z_J (kk := fun _ => ?_) | refine z_K (kk := fun _ => ?_) | refine z_L (kk := fun _ => ?_) | refine z_T (kk := ?_) | refine z_F (kk := ?_) | refine z_r (kk := fun _ _ _ _ => ?_) | refine z_D (kk := ?_) | refine z_g (kk := ?_) | refine z_h (kk := ?_)))
  refine Ops.call rfl rfl rfl rfl rfl (ints_c (Sl.below ha.sl (Below.via hb49 hb10)) (lit2 hM10)) (fun r w11 hR => ?_)
  obtain ⟨rfl, hb11⟩ := hR
  rw [decide_eq_true (show ([1, 0] : List Int) = [1, 0] from rfl)]
  have hb911 := Below.via hb10 hb11
  have hb411 := Below.via hb49 hb911
  (repeat (first | with_reducible refine W.seq ?_ | with_reducible refine Ops.nil ?_ | with_reducible refine W.region ?_ | refine z_p (kk := ?_) | refine z_a (kk := ?_) | refine z_y (kk := ?_) | refine z_n (kk := ?_) | refine z_u (kk := ?_) | with_reducible refine W.skip ?_ | with_reducible refine W.endb ?_ | with_reducible refine W.block ?_ | refine W.exit rfl ?_ | refine z_l (kk := ?_) | refine z_f (kk := ?_) | refine z_M (kk := ?_) | refine z_m (kk := ?_) | refine z_e (kk := ?_) | refine z_E (kk := ?_) | refine z_d (kk := ?_) | refine z_I (kk := fun _ => ?_) | refine z_J (kk := fun _ => ?_) | refine z_K (kk := fun _ => ?_) | refine z_L (kk := fun _ => ?_) | refine z_T (kk := ?_) | refine z_F (kk := ?_) | refine z_r (kk := fun _ _ _ _ => ?_) | refine z_D (kk := ?_) | refine z_g (kk := ?_) | refine z_h (kk := ?_)))
  refine Ops.call rfl rfl rfl rfl rfl (proves_c (hM4.below hb411) hC (Sl.below ha.sl hb411) (Sl.below hu.sl hb411) (Sl.below hv.sl hb411)) (fun r w12 hR => ?_)
  obtain ⟨rfl, hb12⟩ := hR
  rw [decide_eq_true hP]
  have hb512 := Below.via hb59 (Below.via hb911 hb12)
  (repeat (first | with_reducible refine W.seq ?_ | with_reducible refine Ops.nil ?_ | with_reducible refine W.region ?_ | refine z_p (kk := ?_) | refine z_a (kk := ?_) | refine z_y (kk := ?_) | refine z_n (kk := ?_) | refine z_u (kk := ?_) | with_reducible refine W.skip ?_ | with_reducible refine W.endb ?_ | with_reducible refine W.block ?_ | refine W.exit rfl ?_ | refine z_l (kk := ?_) | refine z_f (kk := ?_) | refine z_M (kk := ?_) | refine z_m (kk := ?_) | refine z_e (kk := ?_) | refine z_E (kk := ?_) | refine z_d (kk := ?_) | refine z_I (kk := fun _ => ?_) | refine z_J (kk := fun _ => ?_) | refine z_K (kk := fun _ => ?_) | refine z_L (kk := fun _ => ?_) | refine z_T (kk := ?_) | refine z_F (kk := ?_) | refine z_r (kk := fun _ _ _ _ => ?_) | refine z_D (kk := ?_) | refine z_g (kk := ?_) | refine z_h (kk := ?_)))
  refine Ops.bs2 rfl rfl rfl rfl rfl rfl rfl rfl rfl rfl rfl (fun w13 r13 hM13 => ?_)
  have hb13 := Mk.bel hM13
  (repeat (first | with_reducible refine W.seq ?_ | with_reducible refine Ops.nil ?_ | with_reducible refine W.region ?_ | refine z_p (kk := ?_) | refine z_a (kk := ?_) | refine z_y (kk := ?_) | refine z_n (kk := ?_) | refine z_u (kk := ?_) | with_reducible refine W.skip ?_ | with_reducible refine W.endb ?_ | with_reducible refine W.block ?_ | refine W.exit rfl ?_ | refine z_l (kk := ?_) | refine z_f (kk := ?_) | refine z_M (kk := ?_) | refine z_m (kk := ?_) | refine z_e (kk := ?_) | refine z_E (kk := ?_) | refine z_d (kk := ?_) | refine z_I (kk := fun _ => ?_) | refine z_J (kk := fun _ => ?_) | refine z_K (kk := fun _ => ?_) | refine z_L (kk := fun _ => ?_) | refine z_T (kk := ?_) | refine z_F (kk := ?_) | refine z_r (kk := fun _ _ _ _ => ?_) | refine z_D (kk := ?_) | refine z_g (kk := ?_) | refine z_h (kk := ?_)))
  refine Ops.bs2 rfl rfl rfl rfl rfl rfl rfl rfl rfl rfl rfl (fun w14 r14 hM14 => ?_)
  have hb14 := Mk.bel hM14
  (repeat (first | with_reducible refine W.seq ?_ | with_reducible refine Ops.nil ?_ | with_reducible refine W.region ?_ | refine z_p (kk := ?_) | refine z_a (kk := ?_) | refine z_y (kk := ?_) | refine z_n (kk := ?_) | refine z_u (kk := ?_) | with_reducible refine W.skip ?_ | with_reducible refine W.endb ?_ | with_reducible refine W.block ?_ | refine W.exit rfl ?_ | refine z_l (kk := ?_) | refine z_f (kk := ?_) | refine z_M (kk := ?_) | refine z_m (kk := ?_) | refine z_e (kk := ?_) | refine z_E (kk := ?_) | refine z_d (kk := ?_) | refine z_I (kk := fun _ => ?_) | refine z_J (kk := fun _ => ?_) | refine z_K (kk := fun _ => ?_) | refine z_L (kk := fun _ => ?_) | refine z_T (kk := ?_) | refine z_F (kk := ?_) | refine z_r (kk := fun _ _ _ _ => ?_) | refine z_D (kk := ?_) | refine z_g (kk := ?_) | refine z_h (kk := ?_)))
  refine Ops.bs2 rfl rfl rfl rfl rfl rfl rfl rfl rfl rfl rfl (fun w15 r15 hM15 => ?_)
  have hb15 := Mk.bel hM15
  have hT15 : RowsM w15 (.slice (some ⟨r15, 0, none⟩) 2 2) [[1, 0], [0, 1]] := lit2R hM15 (Sl.below (lit2 hM13) (Below.via hb14 hb15)) (Sl.below (lit2 hM14) hb15)
  have hS5 := hS.rowsM
  rw [c0_slack] at hS5
  have hb1215 := Below.via hb13 (Below.via hb14 hb15)
  (repeat (first | with_reducible refine W.seq ?_ | with_reducible refine Ops.nil ?_ | with_reducible refine W.region ?_ | refine z_p (kk := ?_) | refine z_a (kk := ?_) | refine z_y (kk := ?_) | refine z_n (kk := ?_) | refine z_u (kk := ?_) | with_reducible refine W.skip ?_ | with_reducible refine W.endb ?_ | with_reducible refine W.block ?_ | refine W.exit rfl ?_ | refine z_l (kk := ?_) | refine z_f (kk := ?_) | refine z_M (kk := ?_) | refine z_m (kk := ?_) | refine z_e (kk := ?_) | refine z_E (kk := ?_) | refine z_d (kk := ?_) | refine z_I (kk := fun _ => ?_) | refine z_J (kk := fun _ => ?_) | refine z_K (kk := fun _ => ?_) | refine z_L (kk := fun _ => ?_) | refine z_T (kk := ?_) | refine z_F (kk := ?_) | refine z_r (kk := fun _ _ _ _ => ?_) | refine z_D (kk := ?_) | refine z_g (kk := ?_) | refine z_h (kk := ?_)))
  refine Ops.call rfl rfl rfl rfl rfl (tables_c (hS5.below (Below.via hb512 hb1215)) hT15) (fun r w16 hR => ?_)
  obtain ⟨rfl, hb16⟩ := hR
  rw [decide_eq_true (show ([[1, 0], [0, 1]] : List (List Int)) = [[1, 0], [0, 1]] from rfl)]
  have hb916 := Below.via hb911 (Below.via hb12 (Below.via hb1215 hb16))
  (repeat (first | with_reducible refine W.seq ?_ | with_reducible refine Ops.nil ?_ | with_reducible refine W.region ?_ | refine z_p (kk := ?_) | refine z_a (kk := ?_) | refine z_y (kk := ?_) | refine z_n (kk := ?_) | refine z_u (kk := ?_) | with_reducible refine W.skip ?_ | with_reducible refine W.endb ?_ | with_reducible refine W.block ?_ | refine W.exit rfl ?_ | refine z_l (kk := ?_) | refine z_f (kk := ?_) | refine z_M (kk := ?_) | refine z_m (kk := ?_) | refine z_e (kk := ?_) | refine z_E (kk := ?_) | refine z_d (kk := ?_) | refine z_I (kk := fun _ => ?_) | refine z_J (kk := fun _ => ?_) | refine z_K (kk := fun _ => ?_) | refine z_L (kk := fun _ => ?_) | refine z_T (kk := ?_) | refine z_F (kk := ?_) | refine z_r (kk := fun _ _ _ _ => ?_) | refine z_D (kk := ?_) | refine z_g (kk := ?_) | refine z_h (kk := ?_)))
  refine Ops.bs2 rfl rfl rfl rfl rfl rfl rfl rfl rfl rfl rfl (fun w17 r17 hM17 => ?_)
  have hb17 := Mk.bel hM17
  (repeat (first | with_reducible refine W.seq ?_ | with_reducible refine Ops.nil ?_ | with_reducible refine W.region ?_ | refine z_p (kk := ?_) | refine z_a (kk := ?_) | refine z_y (kk := ?_) | refine z_n (kk := ?_) | refine z_u (kk := ?_) | with_reducible refine W.skip ?_ | with_reducible refine W.endb ?_ | with_reducible refine W.block ?_ | refine W.exit rfl ?_ | refine z_l (kk := ?_) | refine z_f (kk := ?_) | refine z_M (kk := ?_) | refine z_m (kk := ?_) | refine z_e (kk := ?_) | refine z_E (kk := ?_) | refine z_d (kk := ?_) | refine z_I (kk := fun _ => ?_) | refine z_J (kk := fun _ => ?_) | refine z_K (kk := fun _ => ?_) | refine z_L (kk := fun _ => ?_) | refine z_T (kk := ?_) | refine z_F (kk := ?_) | refine z_r (kk := fun _ _ _ _ => ?_) | refine z_D (kk := ?_) | refine z_g (kk := ?_) | refine z_h (kk := ?_)))
  refine Ops.call rfl rfl rfl rfl rfl (ints_c (Sl.below hna (Below.via hb69 (Below.via hb916 hb17))) (lit2 hM17)) (fun r w18 hR => ?_)
  obtain ⟨rfl, hb18⟩ := hR
  rw [decide_eq_true (show ([1, 0] : List Int) = [1, 0] from rfl)]
  have hb918 := Below.via hb916 (Below.via hb17 hb18)
  (repeat (first | with_reducible refine W.seq ?_ | with_reducible refine Ops.nil ?_ | with_reducible refine W.region ?_ | refine z_p (kk := ?_) | refine z_a (kk := ?_) | refine z_y (kk := ?_) | refine z_n (kk := ?_) | refine z_u (kk := ?_) | with_reducible refine W.skip ?_ | with_reducible refine W.endb ?_ | with_reducible refine W.block ?_ | refine W.exit rfl ?_ | refine z_l (kk := ?_) | refine z_f (kk := ?_) | refine z_M (kk := ?_) | refine z_m (kk := ?_) | refine z_e (kk := ?_) | refine z_E (kk := ?_) | refine z_d (kk := ?_) | refine z_I (kk := fun _ => ?_) | refine z_J (kk := fun _ => ?_) | refine z_K (kk := fun _ => ?_) | refine z_L (kk := fun _ => ?_) | refine z_T (kk := ?_) | refine z_F (kk := ?_) | refine z_r (kk := fun _ _ _ _ => ?_) | refine z_D (kk := ?_) | refine z_g (kk := ?_) | refine z_h (kk := ?_)))
  refine Ops.bs2 rfl rfl rfl rfl rfl rfl rfl rfl rfl rfl rfl (fun w19 r19 hM19 => ?_)
  have hb19 := Mk.bel hM19
  (repeat (first | with_reducible refine W.seq ?_ | with_reducible refine Ops.nil ?_ | with_reducible refine W.region ?_ | refine z_p (kk := ?_) | refine z_a (kk := ?_) | refine z_y (kk := ?_) | refine z_n (kk := ?_) | refine z_u (kk := ?_) | with_reducible refine W.skip ?_ | with_reducible refine W.endb ?_ | with_reducible refine W.block ?_ | refine W.exit rfl ?_ | refine z_l (kk := ?_) | refine z_f (kk := ?_) | refine z_M (kk := ?_) | refine z_m (kk := ?_) | refine z_e (kk := ?_) | refine z_E (kk := ?_) | refine z_d (kk := ?_) | refine z_I (kk := fun _ => ?_) | refine z_J (kk := fun _ => ?_) | refine z_K (kk := fun _ => ?_) | refine z_L (kk := fun _ => ?_) | refine z_T (kk := ?_) | refine z_F (kk := ?_) | refine z_r (kk := fun _ _ _ _ => ?_) | refine z_D (kk := ?_) | refine z_g (kk := ?_) | refine z_h (kk := ?_)))
  refine Ops.call rfl rfl rfl rfl rfl (ints_c (Sl.below hp.sl (Below.via hb79 (Below.via hb918 hb19))) (lit2 hM19)) (fun r w20 hR => ?_)
  obtain ⟨rfl, hb20⟩ := hR
  rw [decide_eq_true (show ([0, 1] : List Int) = [0, 1] from rfl)]
  have hb020 := Below.via hb3 (Below.via hb4 (Below.via hb49 (Below.via hb918 (Below.via hb19 hb20))))
  (repeat (first | with_reducible refine W.seq ?_ | with_reducible refine Ops.nil ?_ | with_reducible refine W.region ?_ | refine z_p (kk := ?_) | refine z_a (kk := ?_) | refine z_y (kk := ?_) | refine z_n (kk := ?_) | refine z_u (kk := ?_) | with_reducible refine W.skip ?_ | with_reducible refine W.endb ?_ | with_reducible refine W.block ?_ | refine W.exit rfl ?_ | refine z_l (kk := ?_) | refine z_f (kk := ?_) | refine z_M (kk := ?_) | refine z_m (kk := ?_) | refine z_e (kk := ?_) | refine z_E (kk := ?_) | refine z_d (kk := ?_) | refine z_I (kk := fun _ => ?_) | refine z_J (kk := fun _ => ?_) | refine z_K (kk := fun _ => ?_) | refine z_L (kk := fun _ => ?_) | refine z_T (kk := ?_) | refine z_F (kk := ?_) | refine z_r (kk := fun _ _ _ _ => ?_) | refine z_D (kk := ?_) | refine z_g (kk := ?_) | refine z_h (kk := ?_)))
  refine W.condF rfl (by first | rfl | assumption | (simp only [bnf] <;> omega) | (simp only [*, bnf]; done) | fail) ?_
  (repeat (first | with_reducible refine W.seq ?_ | with_reducible refine Ops.nil ?_ | with_reducible refine W.region ?_ | refine z_p (kk := ?_) | refine z_a (kk := ?_) | refine z_y (kk := ?_) | refine z_n (kk := ?_) | refine z_u (kk := ?_) | with_reducible refine W.skip ?_ | with_reducible refine W.endb ?_ | with_reducible refine W.block ?_ | refine W.exit rfl ?_ | refine z_l (kk := ?_) | refine z_f (kk := ?_) | refine z_M (kk := ?_) | refine z_m (kk := ?_) | refine z_e (kk := ?_) | refine z_E (kk := ?_) | refine z_d (kk := ?_) | refine z_I (kk := fun _ => ?_) | refine z_J (kk := fun _ => ?_) | refine z_K (kk := fun _ => ?_) | refine z_L (kk := fun _ => ?_) | refine z_T (kk := ?_) | refine z_F (kk := ?_) | refine z_r (kk := fun _ _ _ _ => ?_) | refine z_D (kk := ?_) | refine z_g (kk := ?_) | refine z_h (kk := ?_)))
  exact W.fret rfl ⟨rfl, hb020⟩
end Go.Proofs.Ytehjmakiljhjdaa
/- Plain: the narrowest assignment. -/
namespace Go.Proofs.Ytehjmakiljhjdaa
open Go Go.RowKit Go.Proofs.Ytehjmakiljhjdaa.VW
theorem wid_le {c : List (List Int)} {a : List Int} {y : Int} : ∀ n, 0 < n → (widS c a n ≤ y ↔ ∀ i, i < n → costA c a i ≤ y)
  | 0, h => by omega
  | 1, _ => by
    simp only [widS]
    have : costA c a 0 = (c.getD 0 []).getD (a.getD 0 0).toNat 0 := rfl
    constructor
    · intro h i hi
      obtain rfl : i = 0 := by omega
      omega
    · intro h; have := h 0 (by omega); omega
  | n + 2, _ => by
    have ih := wid_le (c := c) (a := a) (y := y) (n + 1) (by omega)
    rw [widS]
    have : costA c a (n + 1) = (c.getD (n + 1) []).getD (a.getD (n + 1) 0).toNat 0 := rfl
    constructor
    · intro h i hi
      by_cases e : i = n + 1
      · subst e; omega
      · exact ih.1 (by omega) i (by omega)
    · intro h
      have h1 := ih.2 (fun i hi => h i (by omega))
      have h2 := h (n + 1) (by omega)
      omega
theorem wid_ex {c : List (List Int)} {a : List Int} : ∀ n, 0 < n → ∃ i, i < n ∧ costA c a i = widS c a n
  | 0, h => by omega
  | 1, _ => ⟨0, by omega, by simp only [widS]; have : costA c a 0 = (c.getD 0 []).getD (a.getD 0 0).toNat 0 := rfl; omega⟩
  | n + 2, _ => by
    obtain ⟨i, h1, h2⟩ := wid_ex (c := c) (a := a) (n + 1) (by omega)
    rw [widS]
    have : costA c a (n + 1) = (c.getD (n + 1) []).getD (a.getD (n + 1) 0).toNat 0 := rfl
    rcases Int.le_total (widS c a (n + 1)) (costA c a (n + 1)) with h | h
    · exact ⟨n + 1, by omega, by omega⟩
    · exact ⟨i, by omega, by omega⟩
theorem okA_iff {c : List (List Int)} {a : List Int} {x : Int} (hn : 0 < c.length) (h : Asg a c.length) : OkA c x a ↔ widS c a c.length ≤ x := by
  rw [wid_le _ hn]
  exact ⟨fun k => k.2, fun k => ⟨h, k⟩⟩
theorem fits_lex {c : List (List Int)} {x : Int} {a : List Int} : ∀ k l, l.length + k = c.length → Pre c x l → fitsS c x k l = some a → ∀ b, OkA c x b → b.take l.length = l → a = b ∨ lexB a b = true
  | 0, l, hl, hp, h, b, hb, ht => by
    simp only [fitsS, Option.some.injEq] at h
    subst h
    left
    rw [← ht, List.take_of_length_le (by have := hb.1.1; omega)]
  | k + 1, l, hl, hp, h, b, hb, ht => by
    have hall := fits_sound (k + 1) l hl hp h
    simp only [fitsS] at h
    obtain ⟨q, q1, q2, q3, q4⟩ := tryF_some _ _ h
    have hbl := hb.1.1
    have hbi := (hb.1.2 l.length (by omega)).1
    have hnm := Asg.not_mem hb.1 (i := l.length) (by omega)
    rw [ht] at hnm
    have hbj : b.getD l.length 0 = (funA b l.length : Int) := (hb.1.funA (by omega)).1
    have hjn := (hb.1.funA (i := l.length) (by omega)).2
    have hcost := hb.2 l.length (by omega)
    have htk : b.take (l.length + 1) = l ++ [(funA b l.length : Int)] := by rw [take_succI (by omega), ht, hbj]
    have hok : (c.getD l.length []).getD (funA b l.length) 0 ≤ x ∧ ¬ ((funA b l.length : Nat) : Int) ∈ l := ⟨hcost, by rw [← hbj]; exact hnm⟩
    split at q3
    · rename_i hq
      have hlen : (l ++ [(q : Int)]).length = l.length + 1 := by simp
      have hpre := hp.snoc (j := q) (by omega) hq.2 hq.1
      rcases Nat.lt_trichotomy (funA b l.length) q with e | e | e
      · exfalso
        have := q4 _ (Nat.zero_le _) e
        rw [if_pos hok] at this
        have hl2 : (l ++ [((funA b l.length : Nat) : Int)]).length = l.length + 1 := by simp
        exact fits_none k _ (by rw [hl2]; omega) this b hb (by rw [hl2]; exact htk)
      · rw [← e] at q3 hpre hlen
        exact fits_lex k _ (by rw [hlen]; omega) hpre q3 b hb (by rw [hlen]; exact htk)
      · right
        have h2 := (fits_sound k _ (by rw [hlen]; omega) hpre q3).2
        rw [hlen] at h2
        rw [← List.take_append_drop (l.length + 1) a, ← List.take_append_drop (l.length + 1) b, h2, htk, List.append_assoc, List.append_assoc, List.singleton_append, List.singleton_append]
        exact lexB_app (by omega) _ _
    · cases q3
theorem Pre.nil {c : List (List Int)} {x : Int} : Pre c x [] := fun i hi => by simp at hi
theorem NarS.ok {c : List (List Int)} {a b : List Int} {x : Int} (h : NarS c a x b) : OkA c x a := fits_some0 h.fit
theorem NarS.min {c : List (List Int)} {a b : List Int} {x : Int} (hC : Cst c) (h : NarS c a x b) {d : List Int} (hd : Asg d c.length) : x ≤ widS c d c.length := by
  have hn := hC.n1
  obtain ⟨i, h1, h2⟩ := wid_ex (c := c) (a := d) c.length (by omega)
  apply Classical.byContradiction
  intro hlt
  have hm := cost_mem hC hd h1
  rw [h2] at hm
  exact fits_none0 (h.least _ hm (by omega)) d ((okA_iff (by omega) hd).2 (Int.le_refl _))
theorem NarS.wid {c : List (List Int)} {a b : List Int} {x : Int} (hC : Cst c) (h : NarS c a x b) : widS c a c.length = x :=
  Int.le_antisymm ((okA_iff (by have := hC.n1; omega) h.ok.1).1 h.ok) (h.min hC h.ok.1)
theorem nar_spec (c : List (List Int)) : ∀ i, i ≤ (allL c.length).length → (∀ q, q < i → widS c ((allL c.length).getD (narI c i) []) c.length ≤ widS c ((allL c.length).getD q []) c.length) ∧ (∀ q, q < narI c i → widS c ((allL c.length).getD (narI c i) []) c.length < widS c ((allL c.length).getD q []) c.length) ∧ (0 < i → narI c i < i)
  | 0, _ => ⟨fun q hq => by omega, fun q hq => by simp [narI] at hq, fun h => by omega⟩
  | i + 1, hi => by
    obtain ⟨h1, h2, h3⟩ := nar_spec c i (by omega)
    simp only [narI]
    split
    · rename_i hlt
      refine ⟨fun q hq => ?_, fun q hq => ?_, fun _ => by omega⟩
      · by_cases e : q = i
        · subst e; omega
        · have := h1 q (by omega); omega
      · have := h1 q hq; omega
    · rename_i hlt
      refine ⟨fun q hq => ?_, h2, fun _ => by
        by_cases e : i = 0
        · subst e; simp [narI]
        · have := h3 (by omega); omega⟩
      by_cases e : q = i
      · subst e; omega
      · exact h1 q (by omega)
theorem NarS.eq {c : List (List Int)} {a b : List Int} {x : Int} (hC : Cst c) (h : NarS c a x b) : a = (allL c.length).getD (narI c (allL c.length).length) [] := by
  have hn := hC.n1
  obtain ⟨s1, s2, s3⟩ := nar_spec c _ (Nat.le_refl _)
  have hnl := narI_le c _ (Nat.le_refl _)
  generalize narI c (allL c.length).length = p at *
  have hAp := all_asg hnl
  obtain ⟨q, hq, hqa⟩ := mem_getDR (mem_allL.2 h.ok.1)
  have hwq := s1 q hq
  rw [hqa, h.wid hC] at hwq
  have hwp := h.min hC hAp
  have hokp : OkA c x ((allL c.length).getD p []) := (okA_iff (by omega) hAp).2 hwq
  rcases fits_lex c.length [] (by simp) Pre.nil h.fit _ hokp (by simp) with e | e
  · exact e
  · exfalso
    rcases Nat.lt_trichotomy q p with l | l | l
    · have := s2 q l
      rw [hqa, h.wid hC] at this
      omega
    · subst l; rw [← hqa, lexB_irr] at e; cases e
    · have h1 := allL_lt l hq
      rw [hqa] at h1
      have := lexB_trans _ _ _ e h1
      rw [lexB_irr] at this
      cases this
end Go.Proofs.Ytehjmakiljhjdaa
namespace Go.Proofs.Ytehjmakiljhjdaa
open Go Go.RowKit Go.Proofs.Ytehjmakiljhjdaa.VW
attribute [local irreducible] W Ops OrdA VW.Ord OrdX
set_option maxHeartbeats 4000000 in
theorem narrowsLaw_c {w : World} {mv lv : Value} {x : Int} {l : List (List Int)} {xs : List Int} (hm : ArgR w mv l) (hl : Arg w lv xs) :
    Calls Try.prog 3 #[mv, .int .i64 x, lv] w (Ret fun r w' => r = .bool true ∧ Below w.heap.size w w') := by
  refine calls_W (vs := [_, _, _]) Try.func3 rfl (by kernel_rfl) rfl ?_
  (repeat (first | with_reducible refine W.seq ?_ | with_reducible refine Ops.nil ?_ | with_reducible refine W.region ?_ | refine z_p (kk := ?_) | refine z_a (kk := ?_) | refine z_y (kk := ?_) | refine z_n (kk := ?_) | refine z_u (kk := ?_) | with_reducible refine W.skip ?_ | with_reducible refine W.endb ?_ | with_reducible refine W.block ?_ | refine W.exit rfl ?_ | refine z_l (kk := ?_) | refine z_f (kk := ?_) | refine z_M (kk := ?_) | refine z_m (kk := ?_) | refine z_e (kk := ?_) | refine z_E (kk := ?_) | refine z_d (kk := ?_) | refine z_I (kk := fun _ => ?_) | refine z_J (kk := fun _ => ?_) | refine z_K (kk := fun _ => ?_) | refine z_L (kk := fun _ => ?_) | refine z_T (kk := ?_) | refine z_F (kk := ?_) | refine z_r (kk := fun _ _ _ _ => ?_) | refine z_D (kk := ?_) | refine z_g (kk := ?_) | refine z_h (kk := ?_)))
  refine Ops.call rfl rfl rfl rfl rfl (table_c hm) (fun tv w1 hR => ?_)
  obtain ⟨cvs, hR⟩ := hR
  have hb1 := hR.o.bel
  have hM1 := hR.rowsM
  generalize tab l = c at *
  (repeat (first | with_reducible refine W.seq ?_ | with_reducible refine Ops.nil ?_ | with_reducible refine W.region ?_ | refine z_p (kk := ?_) | refine z_a (kk := ?_) | refine z_y (kk := ?_) | refine z_n (kk := ?_) | refine z_u (kk := ?_) | with_reducible refine W.skip ?_ | with_reducible refine W.endb ?_ | with_reducible refine W.block ?_ | refine W.exit rfl ?_ | refine z_l (kk := ?_) | refine z_f (kk := ?_) | refine z_M (kk := ?_) | refine z_m (kk := ?_) | refine z_e (kk := ?_) | refine z_E (kk := ?_) | refine z_d (kk := ?_) | refine z_I (kk := fun _ => ?_) | refine z_J (kk := fun _ => ?_) | refine z_K (kk := fun _ => ?_) | refine z_L (kk := fun _ => ?_) | refine z_T (kk := ?_) | refine z_F (kk := ?_) | refine z_r (kk := fun _ _ _ _ => ?_) | refine z_D (kk := ?_) | refine z_g (kk := ?_) | refine z_h (kk := ?_)))
  refine Ops.call rfl rfl rfl rfl rfl (list_c (hl.below hb1)) (fun sv w2 hR2 => ?_)
  have hb02 := Below.via hb1 hR2.bel
  have hM2 := hM1.below hR2.bel
  have hS2 := hR2.sl (z := (0 : Int))
  generalize xs.take 8 = b at *
  (repeat (first | with_reducible refine W.seq ?_ | with_reducible refine Ops.nil ?_ | with_reducible refine W.region ?_ | refine z_p (kk := ?_) | refine z_a (kk := ?_) | refine z_y (kk := ?_) | refine z_n (kk := ?_) | refine z_u (kk := ?_) | with_reducible refine W.skip ?_ | with_reducible refine W.endb ?_ | with_reducible refine W.block ?_ | refine W.exit rfl ?_ | refine z_l (kk := ?_) | refine z_f (kk := ?_) | refine z_M (kk := ?_) | refine z_m (kk := ?_) | refine z_e (kk := ?_) | refine z_E (kk := ?_) | refine z_d (kk := ?_) | refine z_I (kk := fun _ => ?_) | refine z_J (kk := fun _ => ?_) | refine z_K (kk := fun _ => ?_) | refine z_L (kk := fun _ => ?_) | refine z_T (kk := ?_) | refine z_F (kk := ?_) | refine z_r (kk := fun _ _ _ _ => ?_) | refine z_D (kk := ?_) | refine z_g (kk := ?_) | refine z_h (kk := ?_)))
  refine Ops.call rfl rfl rfl rfl rfl (Narrow_c hM2) (fun r w3 hR3 => ?_)
  obtain ⟨hb3, hf3, ht3⟩ := hR3
  have hM3 := hM2.below hb3
  have hb03 := Below.via hb02 hb3
  cases hc : costsB c with
  | false =>
    obtain rfl := hf3 hc
    (repeat (first | with_reducible refine W.seq ?_ | with_reducible refine Ops.nil ?_ | with_reducible refine W.region ?_ | refine z_p (kk := ?_) | refine z_a (kk := ?_) | refine z_y (kk := ?_) | refine z_n (kk := ?_) | refine z_u (kk := ?_) | with_reducible refine W.skip ?_ | with_reducible refine W.endb ?_ | with_reducible refine W.block ?_ | refine W.exit rfl ?_ | refine z_l (kk := ?_) | refine z_f (kk := ?_) | refine z_M (kk := ?_) | refine z_m (kk := ?_) | refine z_e (kk := ?_) | refine z_E (kk := ?_) | refine z_d (kk := ?_) | refine z_I (kk := fun _ => ?_) | refine z_J (kk := fun _ => ?_) | refine z_K (kk := fun _ => ?_) | refine z_L (kk := fun _ => ?_) | refine z_T (kk := ?_) | refine z_F (kk := ?_) | refine z_r (kk := fun _ _ _ _ => ?_) | refine z_D (kk := ?_) | refine z_g (kk := ?_) | refine z_h (kk := ?_)))
    refine Ops.call rfl rfl rfl rfl rfl (IsBlock_c hM3 (Sl.below hS2 hb3)) (fun r w4 hR4 => ?_)
    obtain ⟨rfl, hb4⟩ := hR4
    rw [hc, if_neg (by simp)]
    (repeat (first | with_reducible refine W.seq ?_ | with_reducible refine Ops.nil ?_ | with_reducible refine W.region ?_ | refine z_p (kk := ?_) | refine z_a (kk := ?_) | refine z_y (kk := ?_) | refine z_n (kk := ?_) | refine z_u (kk := ?_) | with_reducible refine W.skip ?_ | with_reducible refine W.endb ?_ | with_reducible refine W.block ?_ | refine W.exit rfl ?_ | refine z_l (kk := ?_) | refine z_f (kk := ?_) | refine z_M (kk := ?_) | refine z_m (kk := ?_) | refine z_e (kk := ?_) | refine z_E (kk := ?_) | refine z_d (kk := ?_) | refine z_I (kk := fun _ => ?_) | refine z_J (kk := fun _ => ?_) | refine z_K (kk := fun _ => ?_) | refine z_L (kk := fun _ => ?_) | refine z_T (kk := ?_) | refine z_F (kk := ?_) | refine z_r (kk := fun _ _ _ _ => ?_) | refine z_D (kk := ?_) | refine z_g (kk := ?_) | refine z_h (kk := ?_)))
    refine Ops.call rfl rfl rfl rfl rfl (refCosts_c (hM3.below hb4)) (fun r w5 hR5 => ?_)
    obtain ⟨rfl, hb5⟩ := hR5
    rw [hc]
    (repeat (first | with_reducible refine W.seq ?_ | with_reducible refine Ops.nil ?_ | with_reducible refine W.region ?_ | refine z_p (kk := ?_) | refine z_a (kk := ?_) | refine z_y (kk := ?_) | refine z_n (kk := ?_) | refine z_u (kk := ?_) | with_reducible refine W.skip ?_ | with_reducible refine W.endb ?_ | with_reducible refine W.block ?_ | refine W.exit rfl ?_ | refine z_l (kk := ?_) | refine z_f (kk := ?_) | refine z_M (kk := ?_) | refine z_m (kk := ?_) | refine z_e (kk := ?_) | refine z_E (kk := ?_) | refine z_d (kk := ?_) | refine z_I (kk := fun _ => ?_) | refine z_J (kk := fun _ => ?_) | refine z_K (kk := fun _ => ?_) | refine z_L (kk := fun _ => ?_) | refine z_T (kk := ?_) | refine z_F (kk := ?_) | refine z_r (kk := fun _ _ _ _ => ?_) | refine z_D (kk := ?_) | refine z_g (kk := ?_) | refine z_h (kk := ?_)))
    refine W.condT rfl (by first | rfl | assumption | (simp only [bnf] <;> omega) | (simp only [*, bnf]; done) | fail) ?_
    (repeat (first | with_reducible refine W.seq ?_ | with_reducible refine Ops.nil ?_ | with_reducible refine W.region ?_ | refine z_p (kk := ?_) | refine z_a (kk := ?_) | refine z_y (kk := ?_) | refine z_n (kk := ?_) | refine z_u (kk := ?_) | with_reducible refine W.skip ?_ | with_reducible refine W.endb ?_ | with_reducible refine W.block ?_ | refine W.exit rfl ?_ | refine z_l (kk := ?_) | refine z_f (kk := ?_) | refine z_M (kk := ?_) | refine z_m (kk := ?_) | refine z_e (kk := ?_) | refine z_E (kk := ?_) | refine z_d (kk := ?_) | refine z_I (kk := fun _ => ?_) | refine z_J (kk := fun _ => ?_) | refine z_K (kk := fun _ => ?_) | refine z_L (kk := fun _ => ?_) | refine z_T (kk := ?_) | refine z_F (kk := ?_) | refine z_r (kk := fun _ _ _ _ => ?_) | refine z_D (kk := ?_) | refine z_g (kk := ?_) | refine z_h (kk := ?_)))
    refine Ops.call rfl rfl rfl rfl rfl (awake_c _) (fun r w6 hR => ?_)
    obtain ⟨rfl, hb6⟩ := hR
    (repeat (first | with_reducible refine W.seq ?_ | with_reducible refine Ops.nil ?_ | with_reducible refine W.region ?_ | refine z_p (kk := ?_) | refine z_a (kk := ?_) | refine z_y (kk := ?_) | refine z_n (kk := ?_) | refine z_u (kk := ?_) | with_reducible refine W.skip ?_ | with_reducible refine W.endb ?_ | with_reducible refine W.block ?_ | refine W.exit rfl ?_ | refine z_l (kk := ?_) | refine z_f (kk := ?_) | refine z_M (kk := ?_) | refine z_m (kk := ?_) | refine z_e (kk := ?_) | refine z_E (kk := ?_) | refine z_d (kk := ?_) | refine z_I (kk := fun _ => ?_) | refine z_J (kk := fun _ => ?_) | refine z_K (kk := fun _ => ?_) | refine z_L (kk := fun _ => ?_) | refine z_T (kk := ?_) | refine z_F (kk := ?_) | refine z_r (kk := fun _ _ _ _ => ?_) | refine z_D (kk := ?_) | refine z_g (kk := ?_) | refine z_h (kk := ?_)))
    exact W.fret rfl ⟨rfl, Below.via hb03 (Below.via hb4 (Below.via hb5 hb6))⟩
  | true =>
    obtain ⟨av, x0, bv, a, bl, rfl, ha, hbl, hN⟩ := ht3 hc
    have hC := costs_iff.1 hc
    (repeat (first | with_reducible refine W.seq ?_ | with_reducible refine Ops.nil ?_ | with_reducible refine W.region ?_ | refine z_p (kk := ?_) | refine z_a (kk := ?_) | refine z_y (kk := ?_) | refine z_n (kk := ?_) | refine z_u (kk := ?_) | with_reducible refine W.skip ?_ | with_reducible refine W.endb ?_ | with_reducible refine W.block ?_ | refine W.exit rfl ?_ | refine z_l (kk := ?_) | refine z_f (kk := ?_) | refine z_M (kk := ?_) | refine z_m (kk := ?_) | refine z_e (kk := ?_) | refine z_E (kk := ?_) | refine z_d (kk := ?_) | refine z_I (kk := fun _ => ?_) | refine z_J (kk := fun _ => ?_) | refine z_K (kk := fun _ => ?_) | refine z_L (kk := fun _ => ?_) | refine z_T (kk := ?_) | refine z_F (kk := ?_) | refine z_r (kk := fun _ _ _ _ => ?_) | refine z_D (kk := ?_) | refine z_g (kk := ?_) | refine z_h (kk := ?_)))
    refine Ops.call rfl rfl rfl rfl rfl (IsBlock_c hM3 (Sl.below hS2 hb3)) (fun r w4 hR4 => ?_)
    obtain ⟨rfl, hb4⟩ := hR4
    rw [hc, if_pos rfl]
    have hM4 := hM3.below hb4
    (repeat (first | with_reducible refine W.seq ?_ | with_reducible refine Ops.nil ?_ | with_reducible refine W.region ?_ | refine z_p (kk := ?_) | refine z_a (kk := ?_) | refine z_y (kk := ?_) | refine z_n (kk := ?_) | refine z_u (kk := ?_) | with_reducible refine W.skip ?_ | with_reducible refine W.endb ?_ | with_reducible refine W.block ?_ | refine W.exit rfl ?_ | refine z_l (kk := ?_) | refine z_f (kk := ?_) | refine z_M (kk := ?_) | refine z_m (kk := ?_) | refine z_e (kk := ?_) | refine z_E (kk := ?_) | refine z_d (kk := ?_) | refine z_I (kk := fun _ => ?_) | refine z_J (kk := fun _ => ?_) | refine z_K (kk := fun _ => ?_) | refine z_L (kk := fun _ => ?_) | refine z_T (kk := ?_) | refine z_F (kk := ?_) | refine z_r (kk := fun _ _ _ _ => ?_) | refine z_D (kk := ?_) | refine z_g (kk := ?_) | refine z_h (kk := ?_)))
    refine Ops.call rfl rfl rfl rfl rfl (refCosts_c hM4) (fun r w5 hR5 => ?_)
    obtain ⟨rfl, hb5⟩ := hR5
    have hM5 := hM4.below hb5
    rw [hc]
    (repeat (first | with_reducible refine W.seq ?_ | with_reducible refine Ops.nil ?_ | with_reducible refine W.region ?_ | refine z_p (kk := ?_) | refine z_a (kk := ?_) | refine z_y (kk := ?_) | refine z_n (kk := ?_) | refine z_u (kk := ?_) | with_reducible refine W.skip ?_ | with_reducible refine W.endb ?_ | with_reducible refine W.block ?_ | refine W.exit rfl ?_ | refine z_l (kk := ?_) | refine z_f (kk := ?_) | refine z_M (kk := ?_) | refine z_m (kk := ?_) | refine z_e (kk := ?_) | refine z_E (kk := ?_) | refine z_d (kk := ?_) | refine z_I (kk := fun _ => ?_) | refine z_J (kk := fun _ => ?_) | refine z_K (kk := fun _ => ?_) | refine z_L (kk := fun _ => ?_) | refine z_T (kk := ?_) | refine z_F (kk := ?_) | refine z_r (kk := fun _ _ _ _ => ?_) | refine z_D (kk := ?_) | refine z_g (kk := ?_) | refine z_h (kk := ?_)))
    refine W.condF rfl (by first | rfl | assumption | (simp only [bnf] <;> omega) | (simp only [*, bnf]; done) | fail) ?_
    (repeat (first | with_reducible refine W.seq ?_ | with_reducible refine Ops.nil ?_ | with_reducible refine W.region ?_ | refine z_p (kk := ?_) | refine z_a (kk := ?_) | refine z_y (kk := ?_) | refine z_n (kk := ?_) | refine z_u (kk := ?_) | with_reducible refine W.skip ?_ | with_reducible refine W.endb ?_ | with_reducible refine W.block ?_ | refine W.exit rfl ?_ | refine z_l (kk := ?_) | refine z_f (kk := ?_) | refine z_M (kk := ?_) | refine z_m (kk := ?_) | refine z_e (kk := ?_) | refine z_E (kk := ?_) | refine z_d (kk := ?_) | refine z_I (kk := fun _ => ?_) | refine z_J (kk := fun _ => ?_) | refine z_K (kk := fun _ => ?_) | refine z_L (kk := fun _ => ?_) | refine z_T (kk := ?_) | refine z_F (kk := ?_) | refine z_r (kk := fun _ _ _ _ => ?_) | refine z_D (kk := ?_) | refine z_g (kk := ?_) | refine z_h (kk := ?_)))
    refine Ops.call rfl rfl rfl rfl rfl (refNarrow_c hM5 hC) (fun wv w6 hR6 => ?_)
    obtain ⟨hw6, hb6⟩ := hR6
    rw [← hN.eq hC] at hw6
    have hM6 := hM5.below hb6
    have hb36 := Below.via hb4 (Below.via hb5 hb6)
    (repeat (first | with_reducible refine W.seq ?_ | with_reducible refine Ops.nil ?_ | with_reducible refine W.region ?_ | refine z_p (kk := ?_) | refine z_a (kk := ?_) | refine z_y (kk := ?_) | refine z_n (kk := ?_) | refine z_u (kk := ?_) | with_reducible refine W.skip ?_ | with_reducible refine W.endb ?_ | with_reducible refine W.block ?_ | refine W.exit rfl ?_ | refine z_l (kk := ?_) | refine z_f (kk := ?_) | refine z_M (kk := ?_) | refine z_m (kk := ?_) | refine z_e (kk := ?_) | refine z_E (kk := ?_) | refine z_d (kk := ?_) | refine z_I (kk := fun _ => ?_) | refine z_J (kk := fun _ => ?_) | refine z_K (kk := fun _ => ?_) | refine z_L (kk := fun _ => ?_) | refine z_T (kk := ?_) | refine z_F (kk := ?_) | refine z_r (kk := fun _ _ _ _ => ?_) | refine z_D (kk := ?_) | refine z_g (kk := ?_) | refine z_h (kk := ?_)))
    refine Ops.call rfl rfl rfl rfl rfl (ints_c (Sl.below ha hb36) hw6) (fun r w7 hR7 => ?_)
    obtain ⟨rfl, hb7⟩ := hR7
    rw [decide_eq_true rfl]
    have hM7 := hM6.below hb7
    (repeat (first | with_reducible refine W.seq ?_ | with_reducible refine Ops.nil ?_ | with_reducible refine W.region ?_ | refine z_p (kk := ?_) | refine z_a (kk := ?_) | refine z_y (kk := ?_) | refine z_n (kk := ?_) | refine z_u (kk := ?_) | with_reducible refine W.skip ?_ | with_reducible refine W.endb ?_ | with_reducible refine W.block ?_ | refine W.exit rfl ?_ | refine z_l (kk := ?_) | refine z_f (kk := ?_) | refine z_M (kk := ?_) | refine z_m (kk := ?_) | refine z_e (kk := ?_) | refine z_E (kk := ?_) | refine z_d (kk := ?_) | refine z_I (kk := fun _ => ?_) | refine z_J (kk := fun _ => ?_) | refine z_K (kk := fun _ => ?_) | refine z_L (kk := fun _ => ?_) | refine z_T (kk := ?_) | refine z_F (kk := ?_) | refine z_r (kk := fun _ _ _ _ => ?_) | refine z_D (kk := ?_) | refine z_g (kk := ?_) | refine z_h (kk := ?_)))
    refine Ops.call rfl rfl rfl rfl rfl (Width_c hM7 hC (Sl.below hw6 hb7) (fun i hi => (hN.ok.1.2 i hi).1) hN.ok.1.1) (fun r w8 hR8 => ?_)
    obtain ⟨rfl, hb8⟩ := hR8
    rw [hN.ok.1.1, hN.wid hC]
    have hM8 := hM7.below hb8
    have hb38 := Below.via hb36 (Below.via hb7 hb8)
    have hx0 := flat_bd hC hN.mem
    (repeat (first | with_reducible refine W.seq ?_ | with_reducible refine Ops.nil ?_ | with_reducible refine W.region ?_ | refine z_p (kk := ?_) | refine z_a (kk := ?_) | refine z_y (kk := ?_) | refine z_n (kk := ?_) | refine z_u (kk := ?_) | with_reducible refine W.skip ?_ | with_reducible refine W.endb ?_ | with_reducible refine W.block ?_ | refine W.exit rfl ?_ | refine z_l (kk := ?_) | refine z_f (kk := ?_) | refine z_M (kk := ?_) | refine z_m (kk := ?_) | refine z_e (kk := ?_) | refine z_E (kk := ?_) | refine z_d (kk := ?_) | refine z_I (kk := fun _ => ?_) | refine z_J (kk := fun _ => ?_) | refine z_K (kk := fun _ => ?_) | refine z_L (kk := fun _ => ?_) | refine z_T (kk := ?_) | refine z_F (kk := ?_) | refine z_r (kk := fun _ _ _ _ => ?_) | refine z_D (kk := ?_) | refine z_g (kk := ?_) | refine z_h (kk := ?_)))
    refine Ops.call rfl rfl rfl rfl rfl (refBlock_c hM8 hC (Sl.below hbl hb38)) (fun r w9 hR9 => ?_)
    obtain ⟨rfl, hb9⟩ := hR9
    rw [decide_eq_true hN.blk]
    have hM9 := hM8.below hb9
    have hb39 := Below.via hb38 hb9
    (repeat (first | with_reducible refine W.seq ?_ | with_reducible refine Ops.nil ?_ | with_reducible refine W.region ?_ | refine z_p (kk := ?_) | refine z_a (kk := ?_) | refine z_y (kk := ?_) | refine z_n (kk := ?_) | refine z_u (kk := ?_) | with_reducible refine W.skip ?_ | with_reducible refine W.endb ?_ | with_reducible refine W.block ?_ | refine W.exit rfl ?_ | refine z_l (kk := ?_) | refine z_f (kk := ?_) | refine z_M (kk := ?_) | refine z_m (kk := ?_) | refine z_e (kk := ?_) | refine z_E (kk := ?_) | refine z_d (kk := ?_) | refine z_I (kk := fun _ => ?_) | refine z_J (kk := fun _ => ?_) | refine z_K (kk := fun _ => ?_) | refine z_L (kk := fun _ => ?_) | refine z_T (kk := ?_) | refine z_F (kk := ?_) | refine z_r (kk := fun _ _ _ _ => ?_) | refine z_D (kk := ?_) | refine z_g (kk := ?_) | refine z_h (kk := ?_)))
    refine Ops.call rfl rfl rfl rfl rfl (refBlock_c hM9 hC (Sl.below hS2 (Below.via hb3 hb39))) (fun r w10 hR10 => ?_)
    obtain ⟨rfl, hb10⟩ := hR10
    (repeat (first | with_reducible refine W.seq ?_ | with_reducible refine Ops.nil ?_ | with_reducible refine W.region ?_ | refine z_p (kk := ?_) | refine z_a (kk := ?_) | refine z_y (kk := ?_) | refine z_n (kk := ?_) | refine z_u (kk := ?_) | with_reducible refine W.skip ?_ | with_reducible refine W.endb ?_ | with_reducible refine W.block ?_ | refine W.exit rfl ?_ | refine z_l (kk := ?_) | refine z_f (kk := ?_) | refine z_M (kk := ?_) | refine z_m (kk := ?_) | refine z_e (kk := ?_) | refine z_E (kk := ?_) | refine z_d (kk := ?_) | refine z_I (kk := fun _ => ?_) | refine z_J (kk := fun _ => ?_) | refine z_K (kk := fun _ => ?_) | refine z_L (kk := fun _ => ?_) | refine z_T (kk := ?_) | refine z_F (kk := ?_) | refine z_r (kk := fun _ _ _ _ => ?_) | refine z_D (kk := ?_) | refine z_g (kk := ?_) | refine z_h (kk := ?_)))
    refine Ops.call rfl rfl rfl rfl rfl (awake_c _) (fun r w11 hR => ?_)
    obtain ⟨rfl, hb11⟩ := hR
    (repeat (first | with_reducible refine W.seq ?_ | with_reducible refine Ops.nil ?_ | with_reducible refine W.region ?_ | refine z_p (kk := ?_) | refine z_a (kk := ?_) | refine z_y (kk := ?_) | refine z_n (kk := ?_) | refine z_u (kk := ?_) | with_reducible refine W.skip ?_ | with_reducible refine W.endb ?_ | with_reducible refine W.block ?_ | refine W.exit rfl ?_ | refine z_l (kk := ?_) | refine z_f (kk := ?_) | refine z_M (kk := ?_) | refine z_m (kk := ?_) | refine z_e (kk := ?_) | refine z_E (kk := ?_) | refine z_d (kk := ?_) | refine z_I (kk := fun _ => ?_) | refine z_J (kk := fun _ => ?_) | refine z_K (kk := fun _ => ?_) | refine z_L (kk := fun _ => ?_) | refine z_T (kk := ?_) | refine z_F (kk := ?_) | refine z_r (kk := fun _ _ _ _ => ?_) | refine z_D (kk := ?_) | refine z_g (kk := ?_) | refine z_h (kk := ?_)))
    exact W.fret rfl ⟨rfl, Below.via hb03 (Below.via hb39 (Below.via hb10 hb11))⟩
end Go.Proofs.Ytehjmakiljhjdaa
/- Arguments as the walks read them. -/
namespace Go.Proofs.Ytehjmakiljhjdaa.VW
open Go Go.RowKit
theorem sl_open {w : World} {x : Addr} {len cap : Nat} {zs : List Int} (hl : len ≤ cap) (hm : cap ≤ maxLen) (hz : zs.length = cap) (hc : ∀ i, i < zs.length → w.cell? (x.add i) = some (.int .i64 (zs.getD i 0))) : SlI w (.slice (some x) len cap) (zs.take len) := by
  have hlen : (zs.take len).length = len := by rw [List.length_take]; omega
  refine ⟨by rw [hlen]; simp only [maxLen] at hm; omega, some x, cap, by rw [hlen], fun _ => ⟨x, rfl, fun j hj => ?_⟩⟩
  rw [hlen] at hj
  rw [hc j (by omega)]
  simp [List.getD_eq_getElem?_getD, List.getElem?_take, hj]
end Go.Proofs.Ytehjmakiljhjdaa.VW
/- Lists of lists among the arguments. -/
namespace Go.Proofs.Ytehjmakiljhjdaa
open Go Go.RowKit Go.ChangeShapes Go.Proofs.Ytehjmakiljhjdaa.VW
theorem add_zero' (p : Addr) : p.add 0 = p := by simp [Addr.add]
theorem arg_open {w : World} {x : Addr} {len cap : Nat} {zs : List Int} (hl : len ≤ cap) (hm : cap ≤ maxLen) (hz : zs.length = cap) (hc : ∀ i, i < zs.length → w.cell? (x.add i) = some (.int .i64 (zs.getD i 0))) : Arg w (.slice (some x) len cap) (zs.take len) := by
  have hlen : (zs.take len).length = len := by rw [List.length_take]; omega
  exact ⟨sl_open hl hm hz hc, some x, cap, by rw [hlen], by omega⟩
theorem ints_arg {H : Type} {enc : TypeId × Value → H} {P : Program} {W : World} {t e : TypeId} {fuel : Nat} {v : Value} {x : DataW H × List MemPlace} (ht : P.underlying t = some (.slice e)) (he : P.underlying e = some (.int .i64)) (hc : P.cellsOf e = 1)
    (h : DataW.trod enc P W 0 (fun _ => true) true fuel t [v] = some x) : ∃ zs, Arg W v zs := by
  rcases open_ints ht he hc h with ⟨hcs, _⟩ | ⟨x, l, c, zs, hcs, _, hl, hm, hz, _, hcell, hwz⟩
  · simp at hcs
    subst hcs
    exact ⟨[], Sl.nil _ _ _ _ _, none, 0, rfl, Nat.le_refl _⟩
  · simp at hcs
    subst hcs
    exact ⟨_, arg_open hl hm (by simpa using hz) hcell⟩
theorem rows_arg {H : Type} {enc : TypeId × Value → H} {P : Program} {W : World} {t s e : TypeId} {fuel : Nat} {v : Value} {x : DataW H × List MemPlace} (ht : P.underlying t = some (.slice s))
    (hs : P.underlying s = some (.slice e)) (he : P.underlying e = some (.int .i64)) (hcs : P.cellsOf s = 1) (hce : P.cellsOf e = 1)
    (h : DataW.trod enc P W 0 (fun _ => true) true fuel t [v] = some x) : ∃ l, ArgR W v l := by
  rcases DataW.trod_slice ht h with ⟨hv, _⟩ | ⟨a, len, cap, elems, rest, n, _, hv, _, hb, hl, hm2, hlen, hel, _, _⟩
  · simp at hv
    subst hv
    refine ⟨[], ⟨by simp, none, 0, [], rfl, fun h => by simp at h, fun j hj => by simp at hj⟩, fun i h1 h2 => by simp at h2; omega⟩
  · simp at hv
    subst hv
    have each : ∀ i, i < len → ∃ (cv : Value) (xs : List Int), W.cell? (a.add (i * 1)) = some cv ∧ Arg W cv xs := by
      intro i hi
      have hy := hel i hi
      rw [List.getElem?_eq_getElem (by omega), hcs, Option.bind_eq_some_iff] at hy
      obtain ⟨cs, hcs2, hst⟩ := hy
      obtain ⟨_, hcl, hcc⟩ := World.cells?_some hcs2
      obtain ⟨c0, rfl⟩ : ∃ c0, cs = [c0] := by
        match cs, hcl with
        | [c0], _ => exact ⟨c0, rfl⟩
      obtain ⟨zs, hz⟩ := ints_arg hs he hce hst
      have g0 := hcc 0 (by omega)
      simp only [List.getElem?_cons_zero] at g0
      rw [show ∀ p : Addr, p.add 0 = p from add_zero'] at g0
      exact ⟨c0, zs, g0, hz⟩
    have hx : ∀ i, ∃ q : Value × List Int, i < len → W.cell? (a.add (i * 1)) = some q.1 ∧ Arg W q.1 q.2 := fun i => by
      by_cases hi : i < len
      · obtain ⟨cv, xs, g⟩ := each i hi
        exact ⟨⟨cv, xs⟩, fun _ => g⟩
      · exact ⟨⟨undef, []⟩, fun h => absurd h hi⟩
    let q : Nat → Value × List Int := fun i => Classical.choose (hx i)
    have hq : ∀ i, i < len → W.cell? (a.add (i * 1)) = some (q i).1 ∧ Arg W (q i).1 (q i).2 := fun i => Classical.choose_spec (hx i)
    let l : List (List Int) := (List.range len).map fun i => (q i).2
    have hll : l.length = len := by simp [l]
    have hlg : ∀ i, i < len → l.getD i [] = (q i).2 := fun i hi => by simp [l, List.getD_eq_getElem?_getD, hi]
    let cvs : List Value := (List.range len).map fun i => (q i).1
    have hcg : ∀ i, i < len → cvs.getD i undef = (q i).1 := fun i hi => by simp [cvs, List.getD_eq_getElem?_getD, hi]
    simp only [maxLen] at hm2
    have hT : RowsM W (.slice (some a) len cap) l := by
      refine ⟨by rw [hll]; omega, some a, cap, cvs, by rw [hll], fun _ => ⟨a, rfl, fun j hj => ?_⟩, fun j hj => ?_⟩
      · rw [hll] at hj
        rw [hcg j hj]
        have := (hq j hj).1
        rwa [Nat.mul_one] at this
      · rw [hll] at hj
        rw [hcg j hj, hlg j hj]
        exact (hq j hj).2.1
    refine ⟨l, hT, fun i h0 hi => ?_⟩
    rw [hll] at hi
    obtain ⟨g0, g2, A', c', g3, g4⟩ := hq i.toNat (by omega)
    have hk : row l i = (q i.toNat).2 := by unfold row; rw [hlg i.toNat (by omega)]
    rw [hk]
    refine ⟨a, cap, A', c', by rw [hll], by rw [← g3]; exact g2, g4, fun w' hb => ?_⟩
    have kk := Kp.of_below (S := fun _ => False) hb
    rw [← g3]
    exact cell_kp kk g0 (fun e => e)
end Go.Proofs.Ytehjmakiljhjdaa
