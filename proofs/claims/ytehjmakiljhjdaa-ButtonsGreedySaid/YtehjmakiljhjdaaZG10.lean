/- A part of the walk: what this seat's statements share. -/
import Derived.Test.YtehjmakiljhjdaaZG8
import Derived.Test.YtehjmakiljhjdaaZG9
import Derived.Test.YtehjmakiljhjdaaZG4
import Derived.Test.YtehjmakiljhjdaaZG6
set_option linter.unusedVariables false
set_option linter.unusedSimpArgs false
set_option linter.unusedSectionVars false
/- Plain: counts, and the place of an assignment in the order. -/
namespace Go.Proofs.Ytehjmakiljhjdaa
open Go Go.RowKit Go.Proofs.Ytehjmakiljhjdaa.VW
def ct (p : Nat → Bool) : Nat → Nat
  | 0 => 0
  | m + 1 => ct p m + if p m then 1 else 0
theorem ct_le (p : Nat → Bool) : ∀ m, ct p m ≤ m
  | 0 => Nat.le_refl _
  | m + 1 => by have := ct_le p m; simp only [ct]; split <;> omega
theorem ct_congr {p q : Nat → Bool} : ∀ m, (∀ i, i < m → p i = q i) → ct p m = ct q m
  | 0, _ => rfl
  | m + 1, h => by simp only [ct]; rw [ct_congr m (fun i hi => h i (by omega)), h m (by omega)]
theorem ct_all {p : Nat → Bool} : ∀ m, (∀ i, i < m → p i = true) → ct p m = m
  | 0, _ => rfl
  | m + 1, h => by simp only [ct]; rw [ct_all m (fun i hi => h i (by omega)), h m (by omega)]; rfl
theorem ct_none {p : Nat → Bool} : ∀ m, (∀ i, i < m → p i = false) → ct p m = 0
  | 0, _ => rfl
  | m + 1, h => by simp only [ct]; rw [ct_none m (fun i hi => h i (by omega)), h m (by omega)]; rfl
theorem ct_zero {p : Nat → Bool} : ∀ m, ct p m = 0 → ∀ i, i < m → p i = false
  | 0, _, i, hi => by omega
  | m + 1, h, i, hi => by
    simp only [ct] at h
    by_cases e : i = m
    · subst e
      cases hp : p i with
      | false => rfl
      | true => rw [hp] at h; simp at h
    · exact ct_zero m (by omega) i (by omega)
theorem ct_lt {p : Nat → Bool} : ∀ m, ct p m < m → ∃ i, i < m ∧ p i = false
  | 0, h => by omega
  | m + 1, h => by
    simp only [ct] at h
    cases hp : p m with
    | false => exact ⟨m, by omega, hp⟩
    | true =>
      rw [hp, if_pos rfl] at h
      obtain ⟨i, h1, h2⟩ := ct_lt (p := p) m (by omega)
      exact ⟨i, by omega, h2⟩
theorem ct_mono {p : Nat → Bool} {a : Nat} : ∀ m, a ≤ m → ct p a ≤ ct p m
  | 0, h => by
    obtain rfl : a = 0 := by omega
    exact Nat.le_refl _
  | m + 1, h => by
    by_cases e : a = m + 1
    · subst e; exact Nat.le_refl _
    · have := ct_mono (p := p) m (show a ≤ m by omega); simp only [ct]; omega
theorem ct_sub {p q : Nat → Bool} : ∀ m, (∀ i, i < m → p i = true → q i = true) → ct p m ≤ ct q m
  | 0, _ => Nat.le_refl _
  | m + 1, h => by
    have := ct_sub m (fun i hi => h i (by omega))
    simp only [ct]
    cases hp : p m with
    | false => simp; omega
    | true => rw [h m (by omega) hp]; simp; omega
theorem ct_ssub {p q : Nat → Bool} {j : Nat} : ∀ m, (∀ i, i < m → p i = true → q i = true) → j < m → p j = false → q j = true → ct p m < ct q m
  | 0, _, h, _, _ => by omega
  | m + 1, h, hj, h1, h2 => by
    simp only [ct]
    by_cases e : j = m
    · subst e
      have := ct_sub (p := p) (q := q) j (fun i hi => h i (by omega))
      rw [h1, h2]; simp; omega
    · have := ct_ssub m (fun i hi => h i (by omega)) (by omega) h1 h2
      cases hp : p m with
      | false => simp; omega
      | true => rw [h m (by omega) hp]; simp; omega
theorem ct_or {p q : Nat → Bool} : ∀ m, (∀ i, i < m → p i = true → q i = false) → ct (fun i => p i || q i) m = ct p m + ct q m
  | 0, _ => rfl
  | m + 1, h => by
    have ih := ct_or m (fun i hi => h i (by omega))
    have hm := h m (by omega)
    have key : ∀ x y : Bool, (x = true → y = false) → (if (x || y) = true then 1 else 0 : Nat) = (if x = true then 1 else 0) + (if y = true then 1 else 0) := by decide
    have := key _ _ hm
    simp only [ct]
    rw [ih, this]
    omega
theorem ct_upto {p : Nat → Bool} {a : Nat} : ∀ m, a ≤ m → ct (fun i => p i && decide (i < a)) m = ct p a
  | 0, h => by
    obtain rfl : a = 0 := by omega
    rfl
  | m + 1, h => by
    simp only [ct]
    by_cases e : a = m + 1
    · subst e
      simp only [ct]
      rw [ct_congr (q := p) m (fun i hi => by simp [show i < m + 1 by omega])]
      simp
    · rw [ct_upto m (by omega)]
      simp [show ¬ m < a by omega]
/-- The total of the q-th of all assignments. -/
def tt (c : List (List Int)) (q : Nat) : Int := totP c ((allL c.length).getD q []) c.length
/-- How many come before the p-th. -/
def rank (c : List (List Int)) (p : Nat) : Nat := ct (fun q => decide (tt c q < tt c p)) (allL c.length).length + ct (fun q => decide (tt c q = tt c p)) p
/-- Does the q-th come before the p-th? -/
def bef (c : List (List Int)) (q p : Nat) : Bool := decide (tt c q < tt c p) || (decide (tt c q = tt c p) && decide (q < p))
theorem rank_bef {c : List (List Int)} {p : Nat} (hp : p < (allL c.length).length) : rank c p = ct (fun q => bef c q p) (allL c.length).length := by
  unfold rank bef
  rw [ct_or (p := fun q => decide (tt c q < tt c p)) (q := fun q => decide (tt c q = tt c p) && decide (q < p)) _ (fun i hi h => by simp at h ⊢; intro h2; omega), ct_upto (p := fun q => decide (tt c q = tt c p)) _ (by omega)]
theorem bef_trans {c : List (List Int)} {a b d : Nat} (h1 : bef c a b = true) (h2 : bef c b d = true) : bef c a d = true := by
  unfold bef at *
  simp only [Bool.or_eq_true, Bool.and_eq_true, decide_eq_true_eq] at *
  omega
theorem bef_irr {c : List (List Int)} {a : Nat} : bef c a a = false := by simp [bef]
theorem bef_total {c : List (List Int)} {a b : Nat} (h : a ≠ b) : bef c a b = true ∨ bef c b a = true := by
  unfold bef
  simp only [Bool.or_eq_true, Bool.and_eq_true, decide_eq_true_eq]
  omega
theorem rank_lt {c : List (List Int)} {a b : Nat} (ha : a < (allL c.length).length) (hb : b < (allL c.length).length) (h : bef c a b = true) : rank c a < rank c b := by
  rw [rank_bef ha, rank_bef hb]
  exact ct_ssub _ (fun i _ hi => bef_trans hi h) ha bef_irr h
theorem rank_inj {c : List (List Int)} {a b : Nat} (ha : a < (allL c.length).length) (hb : b < (allL c.length).length) (h : rank c a = rank c b) : a = b := Classical.byContradiction fun hne => by
  rcases bef_total (c := c) hne with e | e
  · have := rank_lt ha hb e; omega
  · have := rank_lt hb ha e; omega
theorem rank_le {c : List (List Int)} {a : Nat} (ha : a < (allL c.length).length) : rank c a < (allL c.length).length := by
  rw [rank_bef ha]
  have := ct_ssub (p := fun q => bef c q a) (q := fun _ => true) (j := a) (allL c.length).length (fun _ _ _ => rfl) ha bef_irr rfl
  rwa [ct_all _ (fun _ _ => rfl)] at this
theorem idx_ex {c : List (List Int)} {a : List Int} (h : Asg a c.length) : ∃ p, p < (allL c.length).length ∧ (allL c.length).getD p [] = a := mem_getDR (mem_allL.2 h)
theorem all_inj {n p q : Nat} (hp : p < (allL n).length) (hq : q < (allL n).length) (h : (allL n).getD p [] = (allL n).getD q []) : p = q := Classical.byContradiction fun hne => by
  rcases Nat.lt_or_ge p q with l | l
  · have := allL_lt l hq; rw [h, lexB_irr] at this; cases this
  · have := allL_lt (show q < p by omega) hp; rw [h, lexB_irr] at this; cases this
theorem lex_lt {n p q : Nat} (hp : p < (allL n).length) (hq : q < (allL n).length) : lexB ((allL n).getD p []) ((allL n).getD q []) = decide (p < q) := by
  rcases Nat.lt_trichotomy p q with l | l | l
  · rw [allL_lt l hq, decide_eq_true l]
  · subst l; rw [lexB_irr, decide_eq_false (by omega)]
  · rw [decide_eq_false (by omega)]
    cases h : lexB ((allL n).getD p []) ((allL n).getD q []) with
    | false => rfl
    | true => have := lexB_trans _ _ _ h (allL_lt l hp); rw [lexB_irr] at this; cases this
/-- The first one in the order. -/
theorem item0 {c : List (List Int)} {p : Nat} (hp : p < (allL c.length).length) (h : rank c p = 0) : (allL c.length).getD p [] = firstS c c.length 0 := by
  have hA : Asg ((allL c.length).getD p []) c.length := mem_allL.1 (getD_memR hp)
  obtain ⟨f, hf, hfe⟩ := idx_ex (c := c) firstS_Asg
  rw [rank_bef hp] at h
  have hno := ct_zero _ h f hf
  have htf : tt c f = minT c := by unfold tt; rw [hfe]; exact first_tot
  have htp : minT c ≤ tt c p := min_le hA
  unfold bef at hno
  simp only [Bool.or_eq_false_iff, Bool.and_eq_false_iff, decide_eq_false_iff_not] at hno
  have hteq : tt c p = minT c := by omega
  rcases first_lex hA hteq with e | e
  · exact e
  · rw [← hfe, lex_lt hf hp] at e
    simp at e
    omega
theorem rank_first {c : List (List Int)} : ∃ f, f < (allL c.length).length ∧ (allL c.length).getD f [] = firstS c c.length 0 ∧ rank c f = 0 := by
  obtain ⟨f, hf, hfe⟩ := idx_ex (c := c) firstS_Asg
  refine ⟨f, hf, hfe, ?_⟩
  rw [rank_bef hf]
  refine ct_none _ (fun q hq => ?_)
  have hA : Asg ((allL c.length).getD q []) c.length := mem_allL.1 (getD_memR hq)
  have htf : tt c f = minT c := by unfold tt; rw [hfe]; exact first_tot
  have htq : minT c ≤ tt c q := min_le hA
  unfold bef
  simp only [Bool.or_eq_false_iff, Bool.and_eq_false_iff, decide_eq_false_iff_not]
  refine ⟨by omega, ?_⟩
  by_cases e : tt c q = minT c
  · right
    rcases first_lex hA e with e2 | e2
    · have := all_inj hq hf (by rw [e2, hfe]); omega
    · rw [← hfe, lex_lt hf hq] at e2; simp at e2; omega
  · left; omega
end Go.Proofs.Ytehjmakiljhjdaa
namespace Go.Proofs.Ytehjmakiljhjdaa
open Go Go.RowKit Go.Proofs.Ytehjmakiljhjdaa.VW
attribute [local irreducible] W Ops OrdA VW.Ord OrdX
def tn (c : List (List Int)) (q : Nat) : Nat := (tt c q + 7000).toNat
theorem tot_bd {c : List (List Int)} (hC : Cst c) {a : List Int} (h : Asg a c.length) : -7000 ≤ totP c a c.length ∧ totP c a c.length ≤ 7000 := by
  have := totP_bd hC (fun i hi => (h.2 i hi).1) (by rw [h.1]; exact Nat.le_refl _) c.length (by rw [h.1]; exact Nat.le_refl _)
  have := hC.n7
  omega
theorem tn_bd {c : List (List Int)} (hC : Cst c) {q : Nat} (h : q < (allL c.length).length) : (tn c q : Int) = tt c q + 7000 ∧ tn c q ≤ 14000 := by
  have := tot_bd hC (all_asg h)
  unfold tn tt
  omega
def manyL (c : List (List Int)) (i : Nat) : List Int := (List.range 14001).map fun t => ((ct (fun q => decide (tn c q = t)) i : Nat) : Int)
theorem manyL_len (c : List (List Int)) (i : Nat) : (manyL c i).length = 14001 := by simp [manyL]
theorem manyL_get {c : List (List Int)} {i t : Nat} (h : t < 14001) : (manyL c i).getD t 0 = (ct (fun q => decide (tn c q = t)) i : Nat) := by simp [manyL, List.getD_eq_getElem?_getD, h]
theorem manyL_set {c : List (List Int)} {i : Nat} (h : tn c i < 14001) : (manyL c i).set (tn c i) ((manyL c i).getD (tn c i) 0 + 1) = manyL c (i + 1) := by
  rw [manyL_get h]
  refine List.ext_getElem (by simp [manyL]) fun t h1 h2 => ?_
  rw [List.getElem_set]
  simp only [manyL, List.getElem_map, List.getElem_range, ct]
  by_cases e : tn c i = t
  · subst e; simp
  · simp [e]
theorem ct_le_succ {c : List (List Int)} {t N : Nat} : ct (fun q => decide (tn c q < t + 1)) N = ct (fun q => decide (tn c q < t)) N + ct (fun q => decide (tn c q = t)) N := by
  rw [← ct_or _ (fun i _ h => by simp at h ⊢; omega)]
  refine ct_congr _ (fun i _ => ?_)
  rw [Bool.eq_iff_iff]
  simp only [Bool.or_eq_true, decide_eq_true_eq]
  omega
theorem manyL_zero_ {c : List (List Int)} (m : Nat) : (List.replicate m 0 : List Int) = (List.range m).map fun t => ((ct (fun q => decide (tn c q = t)) 0 : Nat) : Int) := List.ext_getElem (by simp) fun t h1 h2 => by simp [ct]
theorem manyL_zero {c : List (List Int)} : (List.replicate 14001 0 : List Int) = manyL c 0 := manyL_zero_ 14001
attribute [local irreducible] manyL
set_option maxHeartbeats 2000000 in
theorem Item_ref_c {w : World} {cv : Value} {c : List (List Int)} (hM : RowsM w cv c) (hC : Cst c) {k : Nat} (hk : k < (allL c.length).length) : Calls Try.prog 46 #[cv, .int .i64 (k : Int)] w (Ret fun r w' => (∃ p, p < (allL c.length).length ∧ rank c p = k ∧ SlI w' r ((allL c.length).getD p [])) ∧ Below w.heap.size w w') := by
  have hn7 := hC.n7
  have hL := levL_lt (n := c.length) (i := c.length) hn7 hn7
  have hpos := allL_pos (n := c.length)
  change (allL c.length).length ≤ 823543 at hL
  obtain ⟨Ac, cc, rfl⟩ := hM.sl
  refine calls_W (vs := [_, _]) Try.func46 rfl (by kernel_rfl) rfl ?_
  (repeat (first | with_reducible refine W.seq ?_ | with_reducible refine Ops.nil ?_ | with_reducible refine W.region ?_ | refine z_p (kk := ?_) | refine z_l (kk := ?_)))
  refine Ops.call rfl rfl rfl rfl rfl (All_c hn7) (fun r w1 hR => ?_)
  obtain ⟨lvs, hR⟩ := hR
  have hb1 := hR.o.bel
  have hML := hR.rowsM
  obtain ⟨AL, cL, rfl⟩ := hML.sl
  have hrow : ∀ i : Nat, row (allL c.length) i = (allL c.length).getD i [] := fun i => by simp [row]
  have hasg : ∀ i : Nat, i < (allL c.length).length → Asg (row (allL c.length) i) c.length := fun i hi => by rw [hrow]; exact all_asg hi
  (repeat (first | with_reducible refine W.seq ?_ | with_reducible refine Ops.nil ?_ | with_reducible refine W.region ?_ | refine z_p (kk := ?_) | refine z_a (kk := ?_)))
  refine Ops.mkO (Value.int .i64) 0 (i := 14001) (w0 := w1) rfl rfl rfl rfl rfl rfl rfl rfl rfl (by omega) rfl (Below.refl _ _) (fun w2 rb hO2 k2 hr2 => ?_)
  rw [manyL_zero] at hO2
  (repeat (first | with_reducible refine W.seq ?_ | with_reducible refine Ops.nil ?_ | with_reducible refine W.region ?_ | refine z_p (kk := ?_) | with_reducible refine W.block ?_))
  refine W.loop (fun m ρ w3 => ∃ (i : Nat), m = (allL c.length).length - i ∧ i ≤ (allL c.length).length ∧ ρ = [(0, .slice Ac c.length cc), (1, .int .i64 (k : Int)), (5, .slice AL (allL c.length).length cL), (6, .int .i64 (-7000)), (7, .slice (some ⟨rb, 0, none⟩) 14001 14001), (8, .int .i64 i)] ∧ OI 3 (Value.int .i64) w1 w3 (.slice (some ⟨rb, 0, none⟩) 14001 14001) (manyL c i))
    ⟨_, _, ⟨0, rfl, Nat.zero_le _, rfl, hO2⟩, (by repeat (first | exact trivial | refine And.intro rfl ?_))⟩ ?_
  rintro m ρ w3 ⟨i, rfl, hi, rfl, hO⟩
  have hb3 := hO.bel
  have hb03 := Below.via hb1 hb3
  (repeat (first | with_reducible refine W.seq ?_ | with_reducible refine Ops.nil ?_ | with_reducible refine W.region ?_ | refine z_p (kk := ?_) | refine z_l (kk := ?_)))
  (first | refine W.condD rfl (fun hc => ?_) (fun hc => ?_) | refine W.condE rfl (fun hc => ?_) (fun hc => ?_) | refine W.condN rfl (fun hc => ?_) (fun hc => ?_) | refine W.cond rfl (fun hc => ?_) (fun hc => ?_))
  · have hil : i < (allL c.length).length := by omega
    have hai := hasg i hil
    have htb := tot_bd hC hai
    have htn := tn_bd hC hil
    (repeat (first | with_reducible refine W.seq ?_ | with_reducible refine W.region ?_ | refine z_p (kk := ?_) | with_reducible refine W.skip ?_ | with_reducible refine W.block ?_ | refine z_r (kk := fun _ _ _ _ => ?_)))
    rename_i Ai mi _ hsi
    refine Ops.call rfl rfl rfl rfl rfl (refTotal_c (hM.below hb03) hC (Sl.below hsi hb3) (fun q hq => (hai.2 q hq).1) (by rw [hai.1]; exact Nat.le_refl _)) (fun r w4 hR => ?_)
    obtain ⟨rfl, hb4⟩ := hR
    have hO4 := hO.below hb4
    have hb14 := hO4.bel
    have hlen := manyL_len c i
    rw [hai.1]
    have hT : totP c (row (allL c.length) i) c.length - -7000 = (tn c i : Int) := by rw [hrow, htn.1]; unfold tt; omega
    (repeat (first | with_reducible refine Ops.nil ?_ | with_reducible refine W.region ?_ | refine z_p (kk := ?_) | refine z_a (kk := ?_) | refine z_K (kk := fun _ => ?_)))
    rw [hT]
    have hg := manyL_get (c := c) (i := i) (t := (tn c i : Int).toNat) (by omega)
    have hcl := ct_le (fun q => decide (tn c q = (tn c i : Int).toNat)) i
    (repeat (first | refine z_a (kk := ?_)))
    refine Ops.wrO (enc := Value.int .i64) (u := (manyL c i).getD (tn c i : Int).toNat 0 + 1) rfl rfl rfl rfl rfl rfl rfl rfl rfl rfl rfl rfl (by simp) rfl hO4 (by rw [hlen]; omega) (fun w5 p hO5 k5 hs5 => ?_)
    rw [Int.toNat_natCast, manyL_set (by omega)] at hO5
    (repeat (first | with_reducible refine Ops.nil ?_ | with_reducible refine W.region ?_ | refine z_p (kk := ?_) | refine z_a (kk := ?_) | with_reducible refine W.endb ?_))
    exact W.endl ⟨_, _, ⟨⟨i + 1, rfl, by omega, rfl, hO5⟩, by omega⟩, (by repeat (first | exact trivial | refine And.intro rfl ?_))⟩
  · have hil : i = (allL c.length).length := by omega
    subst hil
    have hlen := manyL_len c (allL c.length).length
    (repeat (first | with_reducible refine W.seq ?_ | with_reducible refine Ops.nil ?_ | with_reducible refine W.region ?_ | refine z_p (kk := ?_) | with_reducible refine W.block ?_ | refine W.exit rfl ?_))
    refine W.loop (fun m ρ w4 => ∃ (t : Nat) (kk : Int), m = 14001 - t ∧ t ≤ 14000 ∧ w4 = w3 ∧ kk = (k : Int) - (ct (fun q => decide (tn c q < t)) (allL c.length).length : Nat) ∧ 0 ≤ kk ∧ ρ = [(0, .slice Ac c.length cc), (1, .int .i64 kk), (5, .slice AL (allL c.length).length cL), (6, .int .i64 (-7000)), (7, .slice (some ⟨rb, 0, none⟩) 14001 14001), (10, .int .i64 t)])
      ⟨_, _, ⟨0, (k : Int), rfl, by omega, rfl, by rw [ct_none _ (fun i _ => by simp)]; omega, by omega, rfl⟩, (by repeat (first | exact trivial | refine And.intro rfl ?_))⟩ ?_
    rintro m ρ w4 ⟨t, kk, rfl, ht, rfl, hkk, hkk0, rfl⟩
    have hg := manyL_get (c := c) (i := (allL c.length).length) (t := t) (by omega)
    have hcs := ct_le_succ (c := c) (t := t) (N := (allL c.length).length)
    (repeat (first | with_reducible refine W.seq ?_ | with_reducible refine Ops.nil ?_ | with_reducible refine W.region ?_ | refine z_p (kk := ?_) | refine z_I (kk := fun _ => ?_)))
    by_cases hge : kk ≥ (manyL c (allL c.length).length).getD t 0
    · refine W.condT rfl (by first | rfl | assumption | (simp only [bnf] <;> omega) | (simp only [*, bnf]; done) | fail) ?_
      (repeat (first | with_reducible refine W.seq ?_ | with_reducible refine Ops.nil ?_ | with_reducible refine W.region ?_ | refine z_p (kk := ?_) | refine z_a (kk := ?_) | with_reducible refine W.skip ?_ | with_reducible refine W.endb ?_ | with_reducible refine W.block ?_ | refine z_I (kk := fun _ => ?_)))
      refine W.endl ⟨_, _, ⟨⟨t + 1, kk - (manyL c (allL c.length).length).getD t 0, rfl, ?_, rfl, by omega, by omega, rfl⟩, by omega⟩, (by repeat (first | exact trivial | refine And.intro rfl ?_))⟩
      have hlt : ct (fun q => decide (tn c q < t + 1)) (allL c.length).length < (allL c.length).length := by omega
      obtain ⟨q, q1, q2⟩ := ct_lt _ hlt
      have := (tn_bd hC q1).2
      simp at q2
      omega
    · refine W.condF rfl (by first | rfl | assumption | (simp only [bnf] <;> omega) | (simp only [*, bnf]; done) | fail) ?_
      (repeat (first | with_reducible refine W.seq ?_ | with_reducible refine Ops.nil ?_ | with_reducible refine W.region ?_ | refine z_p (kk := ?_) | with_reducible refine W.block ?_ | refine W.exit rfl ?_))
      refine W.loop (fun m ρ w5 => ∃ (i : Nat) (k2 : Int), m = (allL c.length).length + 1 - i ∧ i ≤ (allL c.length).length ∧ k2 = kk - (ct (fun q => decide (tn c q = t)) i : Nat) ∧ -1 ≤ k2 ∧ (k2 = -1 → 1 ≤ i ∧ tn c (i - 1) = t ∧ (ct (fun q => decide (tn c q = t)) (i - 1) : Int) = kk) ∧ Below w4.heap.size w4 w5 ∧ ρ = [(0, .slice Ac c.length cc), (1, .int .i64 k2), (5, .slice AL (allL c.length).length cL), (6, .int .i64 (-7000)), (10, .int .i64 t), (11, .int .i64 i)])
        ⟨_, _, ⟨0, kk, rfl, Nat.zero_le _, by simp [ct], by omega, fun h => by omega, Below.refl _ _, rfl⟩, (by repeat (first | exact trivial | refine And.intro rfl ?_))⟩ ?_
      rintro m ρ w5 ⟨i, k2, rfl, hi2, hk2, hk21, hk22, hb5, rfl⟩
      have hb15 := Below.via hb3 hb5
      have hb05 := Below.via hb03 hb5
      (repeat (first | with_reducible refine W.seq ?_ | with_reducible refine Ops.nil ?_ | with_reducible refine W.region ?_ | refine z_p (kk := ?_)))
      (first | refine W.condD rfl (fun hc => ?_) (fun hc => ?_) | refine W.condE rfl (fun hc => ?_) (fun hc => ?_) | refine W.condN rfl (fun hc => ?_) (fun hc => ?_) | refine W.cond rfl (fun hc => ?_) (fun hc => ?_))
      · have hil : i < (allL c.length).length := by
          rcases Nat.lt_or_ge i (allL c.length).length with h | h
          · exact h
          · obtain rfl : i = (allL c.length).length := by omega
            omega
        have hai := hasg i hil
        have htb := tot_bd hC hai
        have htn := tn_bd hC hil
        (repeat (first | with_reducible refine W.seq ?_ | with_reducible refine W.region ?_ | refine z_p (kk := ?_) | with_reducible refine W.skip ?_ | with_reducible refine W.block ?_ | refine z_r (kk := fun _ _ _ _ => ?_)))
        rename_i Ai mi _ hsi
        refine Ops.call rfl rfl rfl rfl rfl (refTotal_c (hM.below hb05) hC (Sl.below hsi hb15) (fun q hq => (hai.2 q hq).1) (by rw [hai.1]; exact Nat.le_refl _)) (fun r w6 hR => ?_)
        obtain ⟨rfl, hb6⟩ := hR
        have hb46 := Below.via hb5 hb6
        rw [hai.1]
        have hT : totP c (row (allL c.length) i) c.length - -7000 = (tn c i : Int) := by rw [hrow, htn.1]; unfold tt; omega
        (repeat (first | with_reducible refine Ops.nil ?_ | refine z_p (kk := ?_) | refine z_a (kk := ?_)))
        rw [hT]
        have hst : ct (fun q => decide (tn c q = t)) (i + 1) = ct (fun q => decide (tn c q = t)) i + if decide (tn c i = t) = true then 1 else 0 := rfl
        by_cases he : tn c i = t
        · have he' : (tn c i : Int) = t := by omega
          rw [decide_eq_true he, if_pos rfl] at hst
          skip
          refine W.condT rfl (by first | rfl | assumption | (simp only [bnf] <;> omega) | (simp only [*, bnf]; done) | fail) ?_
          (repeat (first | with_reducible refine Ops.nil ?_ | with_reducible refine W.region ?_ | refine z_p (kk := ?_) | refine z_a (kk := ?_) | with_reducible refine W.endb ?_))
          exact W.endl ⟨_, _, ⟨⟨i + 1, k2 - 1, rfl, by omega, by omega, by omega, fun h => ⟨by omega, he, by rw [Nat.add_sub_cancel]; omega⟩, hb46, rfl⟩, by omega⟩, (by repeat (first | exact trivial | refine And.intro rfl ?_))⟩
        · have he' : ¬ (tn c i : Int) = t := by omega
          rw [decide_eq_false he, if_neg (by simp)] at hst
          skip
          refine W.condF rfl (by first | rfl | assumption | (simp only [bnf] <;> omega) | (simp only [*, bnf]; done) | fail) ?_
          (repeat (first | with_reducible refine Ops.nil ?_ | with_reducible refine W.region ?_ | refine z_p (kk := ?_) | refine z_a (kk := ?_) | with_reducible refine W.skip ?_ | with_reducible refine W.endb ?_))
          exact W.endl ⟨_, _, ⟨⟨i + 1, k2, rfl, by omega, by omega, by omega, fun h => by omega, hb46, rfl⟩, by omega⟩, (by repeat (first | exact trivial | refine And.intro rfl ?_))⟩
      · have hk3 : k2 = -1 := by omega
        obtain ⟨hi1, hti, hci⟩ := hk22 hk3
        obtain ⟨p, rfl⟩ : ∃ p, i = p + 1 := ⟨i - 1, by omega⟩
        rw [Nat.add_sub_cancel] at hti hci
        (repeat (first | with_reducible refine W.seq ?_ | with_reducible refine Ops.nil ?_ | with_reducible refine W.region ?_ | refine z_p (kk := ?_) | refine z_a (kk := ?_) | refine W.exit rfl ?_ | refine z_r (kk := fun _ _ _ _ => ?_)))
        rename_i Ai mi _ hsi
        have e1 : ((p + 1 : Nat) : Int) - 1 = (p : Int) := by omega
        rw [e1, hrow] at hsi
        rw [e1, hrow]
        refine W.fret rfl ⟨⟨p, by omega, ?_, Sl.below hsi hb15⟩, hb05⟩
        have hpl : p < (allL c.length).length := by omega
        have htp := (tn_bd hC hpl).1
        unfold rank
        have r1 : ct (fun q => decide (tt c q < tt c p)) (allL c.length).length = ct (fun q => decide (tn c q < t)) (allL c.length).length := ct_congr _ (fun q hq => by
          have := (tn_bd hC hq).1
          rw [Bool.eq_iff_iff]; simp only [decide_eq_true_eq]; omega)
        have r2 : ct (fun q => decide (tt c q = tt c p)) p = ct (fun q => decide (tn c q = t)) p := ct_congr _ (fun q hq => by
          have := (tn_bd hC (show q < (allL c.length).length by omega)).1
          rw [Bool.eq_iff_iff]; simp only [decide_eq_true_eq]; omega)
        rw [r1, r2]
        omega
end Go.Proofs.Ytehjmakiljhjdaa
/- Plain: slacks, payments, fixed holes: both ways. -/
namespace Go.Proofs.Ytehjmakiljhjdaa
open Go Go.RowKit Go.Proofs.Ytehjmakiljhjdaa.VW
/-- A list by its function. -/
def fl (n : Nat) (f : Nat → Int) : List Int := (List.range n).map f
theorem fl_len (n : Nat) (f : Nat → Int) : (fl n f).length = n := by simp [fl]
theorem fl_get {n : Nat} {f : Nat → Int} {i : Nat} (h : i < n) : (fl n f).getD i 0 = f i := by simp [fl, List.getD_eq_getElem?_getD, h]
theorem fl_set {n : Nat} {f : Nat → Int} {j : Nat} {x : Int} : (fl n f).set j x = fl n (fun q => if q = j then x else f q) := by
  refine List.ext_getElem (by simp [fl]) fun t h1 h2 => ?_
  rw [List.getElem_set]
  simp only [fl, List.getElem_map, List.getElem_range]
  by_cases e : j = t
  · subst e; simp
  · simp [e, show ¬ t = j from fun e2 => e e2.symm]
theorem fl_congr {n : Nat} {f g : Nat → Int} (h : ∀ i, i < n → f i = g i) : fl n f = fl n g := List.map_congr_left fun i hi => h i (List.mem_range.1 hi)
theorem fl_zero (n : Nat) : List.replicate n 0 = fl n fun _ => 0 := List.ext_getElem (by simp [fl]) fun t h1 h2 => by simp [fl]
theorem fl_self (l : List Int) : fl l.length (fun i => l.getD i 0) = l := list_ext (fl_len _ _) fun i hi => by rw [fl_len] at hi; exact fl_get hi
/-- The q-th of all assignments. -/
abbrev LL (c : List (List Int)) (q : Nat) : List Int := (allL c.length).getD q []
def slm (c : List (List Int)) (i j : Nat) : Nat → Int
  | 0 => 14000
  | k + 1 => if (LL c k).getD i 0 = (j : Int) then min (slm c i j k) (tt c k - minT c) else slm c i j k
theorem slm_le {c : List (List Int)} {i j : Nat} : ∀ m q, q < m → (LL c q).getD i 0 = (j : Int) → slm c i j m ≤ tt c q - minT c
  | 0, q, h, _ => by omega
  | m + 1, q, h, he => by
    simp only [slm]
    by_cases e : q = m
    · subst e; rw [if_pos he]; omega
    · have := slm_le m q (by omega) he
      split <;> omega
theorem slm_ge {c : List (List Int)} {i j : Nat} {x : Int} (hx : x ≤ 14000) : ∀ m, (∀ q, q < m → (LL c q).getD i 0 = (j : Int) → x ≤ tt c q - minT c) → x ≤ slm c i j m
  | 0, _ => hx
  | m + 1, h => by
    have ih := slm_ge hx m (fun q hq he => h q (by omega) he)
    simp only [slm]
    split
    · rename_i he
      have := h m (by omega) he
      omega
    · exact ih
theorem LL_asg {c : List (List Int)} {q : Nat} (h : q < (allL c.length).length) : Asg (LL c q) c.length := mem_allL.1 (getD_memR h)
theorem totB {c : List (List Int)} (hC : Cst c) {a : List Int} (h : Asg a c.length) : -7000 ≤ totP c a c.length ∧ totP c a c.length ≤ 7000 := by
  have := totP_bd hC (fun i hi => (h.2 i hi).1) (by rw [h.1]; exact Nat.le_refl _) c.length (by rw [h.1]; exact Nat.le_refl _)
  have := hC.n7
  omega
theorem minB {c : List (List Int)} (hC : Cst c) : -7000 ≤ minT c ∧ minT c ≤ 7000 := by
  obtain ⟨a, h, e⟩ := min_att (c := c)
  rw [← e]
  exact totB hC h
theorem slm_eq {c : List (List Int)} (hC : Cst c) {i j : Nat} (hi : i < c.length) (hj : j < c.length) : slm c i j (allL c.length).length = slackE c i j := by
  have hE : slackE c i j = eC c i j + restS c (gI i) c.length (2 ^ j) - minT c := by
    unfold slackE
    rw [first_tot]
    rfl
  obtain ⟨a, hA, haj, hat⟩ := sl_att (c := c) hi hj
  obtain ⟨p, hp, hpe⟩ := idx_ex hA
  refine Int.le_antisymm ?_ ?_
  · have := slm_le (allL c.length).length p hp (by show ((allL c.length).getD p []).getD i 0 = _; rw [hpe, (hA.funA hi).1, haj])
    have e : tt c p = totP c a c.length := by unfold tt; rw [hpe]
    omega
  · have hb := totB hC hA
    have hm := minB hC
    refine slm_ge (by omega) _ (fun q hq he => ?_)
    have hq2 := LL_asg hq
    have := sl_le hq2 hi (j := j) (by have := (hq2.funA hi).1; omega)
    have e : tt c q = totP c (LL c q) c.length := rfl
    omega
theorem slRow_fl {c : List (List Int)} {i : Nat} : ∀ m, slRow c i m = fl m (slackE c i)
  | 0 => rfl
  | m + 1 => by simp only [slRow, slRow_fl m]; simp [fl, List.range_succ]
def plm (c : List (List Int)) (i : Nat) : Nat → Int
  | 0 => tt c 0 - eC c i (funA (LL c 0) i)
  | k + 1 => min (plm c i k) (tt c k - eC c i (funA (LL c k) i))
theorem plm_le {c : List (List Int)} {i : Nat} : ∀ m q, q < m → plm c i m ≤ tt c q - eC c i (funA (LL c q) i)
  | 0, q, h => by omega
  | m + 1, q, h => by
    simp only [plm]
    by_cases e : q = m
    · subst e; omega
    · have := plm_le (c := c) (i := i) m q (by omega)
      omega
theorem plm_ge {c : List (List Int)} {i : Nat} {x : Int} (h0 : x ≤ tt c 0 - eC c i (funA (LL c 0) i)) : ∀ m, (∀ q, q < m → x ≤ tt c q - eC c i (funA (LL c q) i)) → x ≤ plm c i m
  | 0, _ => h0
  | m + 1, h => by
    have ih := plm_ge h0 m (fun q hq => h q (by omega))
    have := h m (by omega)
    simp only [plm]
    omega
theorem plm_eq {c : List (List Int)} {i : Nat} (hi : i < c.length) : plm c i (allL c.length).length = restS c (gI i) c.length 0 := by
  obtain ⟨a, hA, hat⟩ := pay_att (c := c) hi
  obtain ⟨p, hp, hpe⟩ := idx_ex hA
  have hle : ∀ q, q < (allL c.length).length → restS c (gI i) c.length 0 ≤ tt c q - eC c i (funA (LL c q) i) := fun q hq => by
    have := pay_le (LL_asg hq) hi
    have e : tt c q = totP c (LL c q) c.length := rfl
    omega
  refine Int.le_antisymm ?_ (plm_ge (hle 0 allL_pos) _ hle)
  have := plm_le (c := c) (i := i) (allL c.length).length p hp
  have e : tt c p = totP c a c.length := by unfold tt; rw [hpe]
  have e2 : LL c p = a := hpe
  rw [e2] at this
  omega
theorem paysS_fl {c : List (List Int)} {l : List Int} : ∀ m, paysS c l m = fl m fun i => totP c l l.length - eC c i (funA l i) - restS c (gI i) c.length 0
  | 0 => rfl
  | m + 1 => by
    simp only [paysS, paysS_fl m]
    simp only [fl, List.range_succ, List.map_append, List.map_cons, List.map_nil]
    rfl
/-- The last one of the first m that is 0. -/
def fixA (r : List Int) : Nat → Int
  | 0 => -1
  | m + 1 => if r.getD m 0 = 0 then (m : Int) else fixA r m
def zer (r : List Int) (q : Nat) : Bool := decide (r.getD q 0 = 0)
def fixV (r : List Int) (n : Nat) : Int := if 1 < ct (zer r) n then -1 else fixA r n
theorem fixA_none {r : List Int} : ∀ m, (∀ q, q < m → r.getD q 0 ≠ 0) → fixA r m = -1
  | 0, _ => rfl
  | m + 1, h => by simp only [fixA]; rw [if_neg (h m (by omega))]; exact fixA_none m (fun q hq => h q (by omega))
theorem fixA_one {r : List Int} {h : Nat} (hr : r.getD h 0 = 0) : ∀ m, h < m → (∀ q, h < q → q < m → r.getD q 0 ≠ 0) → fixA r m = h
  | 0, hm, _ => by omega
  | m + 1, hm, hq => by
    simp only [fixA]
    by_cases e : h = m
    · subst e; rw [if_pos hr]
    · rw [if_neg (hq m (by omega) (by omega))]
      exact fixA_one hr m (by omega) (fun q h1 h2 => hq q h1 (by omega))
theorem fixV_none {r : List Int} {n : Nat} (h : ∀ q, q < n → r.getD q 0 ≠ 0) : fixV r n = -1 := by
  unfold fixV
  rw [fixA_none n h]
  split <;> rfl
theorem fixV_one {r : List Int} {n k : Nat} (hk : k < n) (hr : r.getD k 0 = 0) (h1 : ∀ q, q < k → r.getD q 0 ≠ 0) (h2 : ∀ q, k < q → q < n → r.getD q 0 ≠ 0) : fixV r n = k := by
  unfold fixV
  rw [if_neg, fixA_one hr n hk h2]
  have : ct (zer r) n ≤ ct (fun q => decide (q = k)) n := ct_sub n (fun i hi hz => by
    unfold zer at hz
    simp only [decide_eq_true_eq] at hz ⊢
    rcases Nat.lt_trichotomy i k with h | h | h
    · exact absurd hz (h1 i h)
    · exact h
    · exact absurd hz (h2 i h hi))
  have hone : ∀ m, ct (fun q => decide (q = k)) m ≤ 1 := fun m => by
    induction m with
    | zero => simp [ct]
    | succ m ih =>
      simp only [ct]
      by_cases e : m = k
      · have : ct (fun q => decide (q = k)) m = 0 := ct_none m (fun i hi => by simp; omega)
        rw [this]; split <;> omega
      · simp [e]; exact ih
  have := hone n
  omega
theorem fixV_many {r : List Int} {n k q : Nat} (hk : k < q) (hq : q < n) (h1 : r.getD k 0 = 0) (h2 : r.getD q 0 = 0) : fixV r n = -1 := by
  unfold fixV
  rw [if_pos]
  have a1 : 0 < ct (zer r) q := by
    rcases Nat.eq_zero_or_pos (ct (zer r) q) with h | h
    · have := ct_zero q h k hk; unfold zer at this; rw [decide_eq_true h1] at this; cases this
    · exact h
  have hz : zer r q = true := decide_eq_true h2
  have a2 : ct (zer r) (q + 1) = ct (zer r) q + 1 := by simp [ct, hz]
  have a3 := ct_mono (p := zer r) n (show q + 1 ≤ n by omega)
  omega
end Go.Proofs.Ytehjmakiljhjdaa
namespace Go.Proofs.Ytehjmakiljhjdaa
open Go Go.RowKit Go.Proofs.Ytehjmakiljhjdaa.VW
attribute [local irreducible] W Ops OrdA VW.Ord OrdX
/-- A list whose parts are told by a function. -/
theorem refItem0_c {w : World} {cv : Value} {c : List (List Int)} (hM : RowsM w cv c) (hC : Cst c) : Calls Try.prog 46 #[cv, .int .i64 0] w (Ret fun r w' => SlI w' r (firstS c c.length 0) ∧ Below w.heap.size w w') := by
  refine (Item_ref_c hM hC (k := 0) allL_pos).mono fun e w' ⟨v, he, ⟨p, h1, h2, h3⟩, hb⟩ => ⟨v, he, ?_, hb⟩
  rw [item0 h1 h2] at h3
  exact h3
theorem slm_ub {c : List (List Int)} {i j : Nat} : ∀ m, slm c i j m ≤ 14000
  | 0 => Int.le_refl _
  | m + 1 => by
    have := slm_ub (c := c) (i := i) (j := j) m
    simp only [slm]
    split <;> omega
set_option maxHeartbeats 4000000 in
theorem refSlack_c {w : World} {cv : Value} {c : List (List Int)} (hM : RowsM w cv c) (hC : Cst c) : Calls Try.prog 34 #[cv] w (Ret fun r w' => ∃ cvs, RW w w' r cvs c.length (fun i => fl c.length fun j => slm c i j (allL c.length).length)) := by
  have hn7 := hC.n7
  have hL := levL_lt (n := c.length) (i := c.length) hn7 hn7
  have hpos := allL_pos (n := c.length)
  change (allL c.length).length ≤ 823543 at hL
  have hmB := minB hC
  obtain ⟨Ac, cc, rfl⟩ := hM.sl
  refine calls_W (vs := [_]) Try.func34 rfl (by kernel_rfl) rfl ?_
  (repeat (first | with_reducible refine W.seq ?_ | with_reducible refine Ops.nil ?_ | with_reducible refine W.region ?_ | refine z_p (kk := ?_) | refine z_l (kk := ?_)))
  refine Ops.call rfl rfl rfl rfl rfl (All_c hn7) (fun r w1 hR => ?_)
  obtain ⟨lvs, hR⟩ := hR
  have hb1 := hR.o.bel
  have hML := hR.rowsM
  obtain ⟨AL, cL, rfl⟩ := hML.sl
  have hrow : ∀ i : Nat, row (allL c.length) i = LL c i := fun i => by simp [row]
  have hasg : ∀ i : Nat, i < (allL c.length).length → Asg (row (allL c.length) i) c.length := fun i hi => by rw [hrow]; exact all_asg hi
  (repeat (first | with_reducible refine W.seq ?_ | with_reducible refine Ops.nil ?_ | with_reducible refine W.region ?_ | refine z_p (kk := ?_)))
  refine Ops.call rfl rfl rfl rfl rfl (refItem0_c (hM.below hb1) hC) (fun r w2 hR2 => ?_)
  obtain ⟨hF2, hb2⟩ := hR2
  have hFA := firstS_Asg (c := c)
  skip
  refine Ops.call rfl rfl rfl rfl rfl (refTotal_c (hM.below (Below.via hb1 hb2)) hC hF2 (fun q hq => (hFA.2 q hq).1) (by rw [hFA.1]; exact Nat.le_refl _)) (fun r w3 hR3 => ?_)
  obtain ⟨rfl, hb3⟩ := hR3
  rw [hFA.1, first_tot]
  have hb13 := Below.via hb2 hb3
  (repeat (first | with_reducible refine W.seq ?_ | with_reducible refine Ops.nil ?_ | with_reducible refine W.region ?_ | refine z_p (kk := ?_) | with_reducible refine W.block ?_))
  refine W.loop (fun m ρ w4 => ∃ (i : Nat) (ov : Value) (cvs : List Value), m = c.length - i ∧ i ≤ c.length ∧ ρ = [(0, .slice Ac c.length cc), (3, .int .i64 c.length), (4, .slice AL (allL c.length).length cL), (5, .int .i64 (minT c)), (6, ov), (7, .int .i64 i)] ∧ RW w1 w4 ov cvs i (fun i => fl c.length fun j => slm c i j (allL c.length).length))
    ⟨_, _, ⟨0, _, _, rfl, Nat.zero_le _, rfl, RW.nil hb13⟩, (by repeat (first | exact trivial | refine And.intro rfl ?_))⟩ ?_
  rintro m ρ w4 ⟨i, ov, cvs, rfl, hi, rfl, hO⟩
  have hb4 := hO.o.bel
  have hb04 := Below.via hb1 hb4
  (repeat (first | with_reducible refine W.seq ?_ | with_reducible refine Ops.nil ?_ | with_reducible refine W.region ?_ | refine z_p (kk := ?_)))
  (first | refine W.condD rfl (fun hc => ?_) (fun hc => ?_) | refine W.condE rfl (fun hc => ?_) (fun hc => ?_) | refine W.condN rfl (fun hc => ?_) (fun hc => ?_) | refine W.cond rfl (fun hc => ?_) (fun hc => ?_))
  · have hil : i < c.length := by omega
    (repeat (first | with_reducible refine W.seq ?_ | with_reducible refine W.region ?_ | refine z_p (kk := ?_) | with_reducible refine W.skip ?_ | with_reducible refine W.block ?_))
    refine Ops.mkO (Value.int .i64) 0 (w0 := w4) rfl rfl rfl rfl rfl rfl rfl rfl rfl (by omega) rfl (Below.refl _ _) (fun w5 rb hR5 k5 hr5 => ?_)
    rw [fl_zero] at hR5
    (repeat (first | with_reducible refine W.seq ?_ | with_reducible refine Ops.nil ?_ | with_reducible refine W.region ?_ | refine z_p (kk := ?_) | with_reducible refine W.block ?_))
    refine W.loop (fun m ρ w6 => ∃ (j : Nat) (f : Nat → Int), m = c.length - j ∧ j ≤ c.length ∧ ρ = [(0, .slice Ac c.length cc), (3, .int .i64 c.length), (4, .slice AL (allL c.length).length cL), (5, .int .i64 (minT c)), (6, ov), (7, .int .i64 i), (8, .slice (some ⟨rb, 0, none⟩) c.length c.length), (9, .int .i64 j)] ∧ OI 3 (Value.int .i64) w4 w6 (.slice (some ⟨rb, 0, none⟩) c.length c.length) (fl c.length f) ∧ ∀ q, q < j → f q = slm c i q (allL c.length).length)
      ⟨_, _, ⟨0, _, rfl, Nat.zero_le _, rfl, hR5, fun q hq => by omega⟩, (by repeat (first | exact trivial | refine And.intro rfl ?_))⟩ ?_
    rintro m ρ w6 ⟨j, f, rfl, hj, rfl, hR6, hf⟩
    have hb6 := hR6.bel
    have hb16 := Below.via hb4 hb6
    have hb06 := Below.via hb1 hb16
    (repeat (first | with_reducible refine W.seq ?_ | with_reducible refine Ops.nil ?_ | with_reducible refine W.region ?_ | refine z_p (kk := ?_)))
    (first | refine W.condD rfl (fun hc => ?_) (fun hc => ?_) | refine W.condE rfl (fun hc => ?_) (fun hc => ?_) | refine W.condN rfl (fun hc => ?_) (fun hc => ?_) | refine W.cond rfl (fun hc => ?_) (fun hc => ?_))
    · have hjl : j < c.length := by omega
      (repeat (first | with_reducible refine W.seq ?_ | with_reducible refine W.region ?_ | refine z_p (kk := ?_) | with_reducible refine W.skip ?_ | with_reducible refine W.block ?_))
      refine Ops.wrO (enc := Value.int .i64) (u := 14000) rfl rfl rfl rfl rfl rfl rfl rfl rfl rfl rfl rfl (by simp) rfl hR6 (by rw [fl_len]; omega) (fun w7 p hR7 k7 hs7 => ?_)
      rw [fl_set] at hR7
      (repeat (first | with_reducible refine W.seq ?_ | with_reducible refine Ops.nil ?_ | with_reducible refine W.region ?_ | refine z_p (kk := ?_) | with_reducible refine W.block ?_))
      refine W.loop (fun m ρ w8 => ∃ (k : Nat) (f : Nat → Int), m = (allL c.length).length - k ∧ k ≤ (allL c.length).length ∧ ρ = [(0, .slice Ac c.length cc), (3, .int .i64 c.length), (4, .slice AL (allL c.length).length cL), (5, .int .i64 (minT c)), (6, ov), (7, .int .i64 i), (8, .slice (some ⟨rb, 0, none⟩) c.length c.length), (9, .int .i64 j), (10, .int .i64 k)] ∧ OI 3 (Value.int .i64) w4 w8 (.slice (some ⟨rb, 0, none⟩) c.length c.length) (fl c.length f) ∧ (∀ q, q < j → f q = slm c i q (allL c.length).length) ∧ f j = slm c i j k)
        ⟨_, _, ⟨0, _, rfl, Nat.zero_le _, rfl, hR7, fun q hq => by rw [if_neg (by omega)]; exact hf q hq, by rw [if_pos rfl]; rfl⟩, (by repeat (first | exact trivial | refine And.intro rfl ?_))⟩ ?_
      clear hR7 hR6 hf f
      rintro m ρ w8 ⟨k, f, rfl, hk, rfl, hR8, hf, hfj⟩
      have hb8 := hR8.bel
      have hb18 := Below.via hb4 hb8
      have hb08 := Below.via hb1 hb18
      (repeat (first | with_reducible refine W.seq ?_ | with_reducible refine Ops.nil ?_ | with_reducible refine W.region ?_ | refine z_p (kk := ?_) | refine z_l (kk := ?_)))
      (first | refine W.condD rfl (fun hc => ?_) (fun hc => ?_) | refine W.condE rfl (fun hc => ?_) (fun hc => ?_) | refine W.condN rfl (fun hc => ?_) (fun hc => ?_) | refine W.cond rfl (fun hc => ?_) (fun hc => ?_))
      · have hkl : k < (allL c.length).length := by omega
        have hak := hasg k hkl
        have hlk := hak.1
        have htb := totB hC hak
        (repeat (first | with_reducible refine W.seq ?_ | with_reducible refine Ops.nil ?_ | with_reducible refine W.region ?_ | refine z_p (kk := ?_) | with_reducible refine W.skip ?_ | with_reducible refine W.block ?_ | refine z_I (kk := fun _ => ?_) | refine z_r (kk := fun _ _ _ _ => ?_)))
        by_cases he : (row (allL c.length) (k : Int)).getD i 0 = j
        · refine W.condT rfl (by first | rfl | assumption | (simp only [bnf] <;> omega) | (simp only [*, bnf]; done) | fail) ?_
          skip
          refine W.ordA 16 [(0, 1), (1, 1), (2, 1), (3, 1), (4, 1), (5, 2), (6, 1), (7, 1), (8, 1), (9, 1), (10, 2), (11, 2), (12, 1), (13, 1), (14, 1), (15, 1), (16, 0)] rfl (by kernel_rfl) rfl (by kernel_rfl) (fun _ _ _ h => h) ?_
          have hcl := fl_len c.length f
          have hg := fl_get (f := f) hjl
          have hfb : f j ≤ 14000 ∧ -14000 ≤ f j := by
            rw [hfj]
            refine ⟨slm_ub k, slm_ge (by omega) _ (fun q hq _ => ?_)⟩
            have e : tt c q = totP c (LL c q) c.length := rfl
            have := totB hC (LL_asg (c := c) (show q < (allL c.length).length by omega))
            omega
          (repeat (first | refine x_p (kk := ?_) | refine x_I (kk := fun _ => ?_) | refine x_r (kk := fun _ _ _ _ => ?_)))
          refine OrdA.call rfl rfl rfl rfl rfl rfl rfl (fun w' hw' => Calls.via hw' (refTotal_c (hM.below (Below.via hb08 hw')) hC (Sl.below (by assumption) (Below.via hb18 hw')) (fun q hq => (hak.2 q hq).1) (by rw [hlk]; exact Nat.le_refl _))) ?_
          have htk : totP c (row (allL c.length) (k : Int)) (row (allL c.length) (k : Int)).length = tt c k := by rw [hlk, hrow]; rfl
          have htk2 : totP c (row (allL c.length) (k : Int)) c.length = tt c k := by rw [hrow]; rfl
          rw [htk2] at htb
          rw [htk]
          (repeat (first | refine x_p (kk := ?_) | refine x_a (kk := ?_) | refine x_m (kk := ?_)))
          refine OrdA.wrO (enc := Value.int .i64) (u := min ((fl c.length f).getD j 0) (tt c k - minT c)) rfl rfl rfl rfl rfl rfl rfl rfl rfl rfl rfl rfl rfl rfl (fun _ => rfl) rfl hR8 (fun _ h => h) (by omega) (by omega) (fun w8 w9 _ hw8 hR9 k9 hs9 => VW.Ord.nil ?_)
          rw [Int.toNat_natCast, fl_set] at hR9
          (repeat (first | with_reducible refine Ops.nil ?_ | with_reducible refine W.region ?_ | refine z_p (kk := ?_) | refine z_a (kk := ?_) | with_reducible refine W.endb ?_))
          refine W.endl ⟨_, _, ⟨⟨k + 1, _, rfl, by omega, rfl, hR9, fun q hq => by rw [if_neg (by omega)]; exact hf q hq, ?_⟩, by omega⟩, (by repeat (first | exact trivial | refine And.intro rfl ?_))⟩
          rw [if_pos rfl, hg, hfj, slm, if_pos (by rw [← hrow]; exact he)]
        · refine W.condF rfl (by first | rfl | assumption | (simp only [bnf] <;> omega) | (simp only [*, bnf]; done) | fail) ?_
          (repeat (first | with_reducible refine Ops.nil ?_ | with_reducible refine W.region ?_ | refine z_p (kk := ?_) | refine z_a (kk := ?_) | with_reducible refine W.skip ?_ | with_reducible refine W.endb ?_))
          refine W.endl ⟨_, _, ⟨⟨k + 1, f, rfl, by omega, rfl, hR8, hf, ?_⟩, by omega⟩, (by repeat (first | exact trivial | refine And.intro rfl ?_))⟩
          rw [hfj, slm, if_neg (by rw [← hrow]; exact he)]
      · have hkl : k = (allL c.length).length := by omega
        subst hkl
        (repeat (first | with_reducible refine Ops.nil ?_ | with_reducible refine W.region ?_ | refine z_p (kk := ?_) | refine z_a (kk := ?_) | with_reducible refine W.endb ?_ | refine W.exit rfl ?_))
        exact W.endl ⟨_, _, ⟨⟨j + 1, f, rfl, by omega, rfl, hR8, fun q hq => by
          by_cases e : q = j
          · rw [e]; exact hfj
          · exact hf q (by omega)⟩, by omega⟩, (by repeat (first | exact trivial | refine And.intro rfl ?_))⟩
    · have hjl : j = c.length := by omega
      subst hjl
      rw [fl_congr hf] at hR6
      have hO6 := hO.below hR6.bel
      (repeat (first | with_reducible refine W.region ?_ | refine z_p (kk := ?_) | refine W.exit rfl ?_))
      refine Ops.pushO (enc := fun v : Value => v) (u := .slice (some ⟨rb, 0, none⟩) c.length c.length) rfl rfl rfl rfl rfl rfl rfl rfl rfl rfl rfl rfl (fun _ => rfl) rfl hO6.o (by rw [hO6.len]; omega) (fun lv' p w7 hO7 k7 hn7 => ?_)
      have hO8 := hO.push hR6 hO7 k7 hn7
      (repeat (first | with_reducible refine Ops.nil ?_ | with_reducible refine W.region ?_ | refine z_p (kk := ?_) | refine z_a (kk := ?_) | with_reducible refine W.endb ?_))
      exact W.endl ⟨_, _, ⟨⟨i + 1, _, _, rfl, by omega, rfl, hO8⟩, by omega⟩, (by repeat (first | exact trivial | refine And.intro rfl ?_))⟩
  · have hil : i = c.length := by omega
    subst hil
    (repeat (first | with_reducible refine W.seq ?_ | with_reducible refine Ops.nil ?_ | with_reducible refine W.region ?_ | refine z_p (kk := ?_) | refine W.exit rfl ?_))
    exact W.fret rfl ⟨cvs, RW.up hO hb1⟩
end Go.Proofs.Ytehjmakiljhjdaa
namespace Go.Proofs.Ytehjmakiljhjdaa.VW
open Go Go.RowKit
theorem RW.argR {w0 w : World} {ov : Value} {cvs : List Value} {n : Nat} {T : Nat → List Int} (h : RW w0 w ov cvs n T) : ArgR w ov ((List.range n).map T) := by
  refine ⟨h.rowsM, fun i h0 hi => ?_⟩
  have hlen : ((List.range n).map T).length = n := by simp
  rw [hlen] at hi ⊢
  have hin : i.toNat < n := by omega
  have hcl := h.len
  obtain ⟨g, cap, e, hcell⟩ := own_at h.o.own (by omega)
  have hr := h.rows i.toNat hin
  obtain ⟨A', k', he⟩ := hr.sh
  have hrow : row ((List.range n).map T) i = T i.toNat := by simp [row, List.getD_eq_getElem?_getD, hin]
  have hsl := hr.sl (z := (0 : Int))
  have hown := hr.own
  rw [he] at hsl hown
  rw [hrow]
  refine ⟨⟨g, 0, none⟩, cap, A', k', by rw [e, hcl], hsl, own_cap hown, fun w' hb => ?_⟩
  have hc := hcell i.toNat (by omega)
  rw [add_lit, Nat.mul_one, Nat.zero_add]
  have hc2 : w.cell? ⟨g, i.toNat, none⟩ = some (.slice A' (T i.toNat).length k') := by
    rw [hc]
    simp only [List.map_id'] at *
    rw [he]
  exact cell_kp (Kp.of_below (S := fun _ => False) hb) hc2 (fun e => e)
end Go.Proofs.Ytehjmakiljhjdaa.VW
namespace Go.Proofs.Ytehjmakiljhjdaa
open Go Go.RowKit Go.Proofs.Ytehjmakiljhjdaa.VW
attribute [local irreducible] W Ops OrdA VW.Ord OrdX
/-- Where a number stands first, or -1. -/
def IxP (xs : List Int) (x k : Int) : Prop := (k = -1 ∧ ¬ x ∈ xs) ∨ (∃ q : Nat, k = q ∧ q < xs.length ∧ xs.getD q 0 = x ∧ ∀ p, p < q → xs.getD p 0 ≠ x)
theorem index2_c {w : World} {v : Value} {xs : List Int} {x : Int} (h : SlI w v xs) : Calls Try.prog 59 #[v, .int .i64 x] w (Ret fun r w' => (∃ k : Int, r = .int .i64 k ∧ IxP xs x k) ∧ w' = w) := by
  have hl := Sl.len h
  obtain ⟨A, c, rfl⟩ := Sl.shape h
  refine calls_W (vs := [_, _]) Try.func59 rfl (by kernel_rfl) rfl ?_
  (repeat (first | with_reducible refine W.seq ?_ | with_reducible refine Ops.nil ?_ | with_reducible refine W.region ?_ | refine z_p (kk := ?_) | with_reducible refine W.block ?_ | refine z_l (kk := ?_)))
  refine W.loop (fun m ρ w1 => ∃ (i : Nat), m = xs.length - i ∧ i ≤ xs.length ∧ ρ = [(0, .slice A xs.length c), (1, .int .i64 x), (7, .int .i64 xs.length), (8, .int .i64 i)] ∧ w1 = w ∧ ∀ p, p < i → xs.getD p 0 ≠ x)
    ⟨_, _, ⟨0, rfl, Nat.zero_le _, rfl, rfl, fun p hp => by omega⟩, (by repeat (first | exact trivial | refine And.intro rfl ?_))⟩ ?_
  rintro m ρ w1 ⟨i, rfl, hi, rfl, rfl, hno⟩
  (repeat (first | with_reducible refine W.seq ?_ | with_reducible refine Ops.nil ?_ | with_reducible refine W.region ?_ | refine z_p (kk := ?_)))
  (first | refine W.condD rfl (fun hc => ?_) (fun hc => ?_) | refine W.condE rfl (fun hc => ?_) (fun hc => ?_) | refine W.condN rfl (fun hc => ?_) (fun hc => ?_) | refine W.cond rfl (fun hc => ?_) (fun hc => ?_))
  · have hil : i < xs.length := by omega
    by_cases e : x = xs.getD i 0
    · (repeat (first | with_reducible refine W.seq ?_ | with_reducible refine Ops.nil ?_ | with_reducible refine W.region ?_ | refine z_p (kk := ?_) | with_reducible refine W.skip ?_ | with_reducible refine W.block ?_ | refine z_I (kk := fun _ => ?_)))
      refine W.condT rfl (by first | rfl | assumption | (simp only [bnf] <;> omega) | (simp only [*, bnf]; done) | fail) ?_
      (repeat (first | with_reducible refine W.seq ?_ | with_reducible refine Ops.nil ?_ | with_reducible refine W.region ?_ | refine z_p (kk := ?_)))
      exact W.fret rfl ⟨⟨i, rfl, .inr ⟨i, rfl, hil, e.symm, hno⟩⟩, rfl⟩
    · (repeat (first | with_reducible refine W.seq ?_ | with_reducible refine Ops.nil ?_ | with_reducible refine W.region ?_ | refine z_p (kk := ?_) | with_reducible refine W.skip ?_ | with_reducible refine W.block ?_ | refine z_I (kk := fun _ => ?_)))
      refine W.condF rfl (by first | rfl | assumption | (simp only [bnf] <;> omega) | (simp only [*, bnf]; done) | fail) ?_
      (repeat (first | with_reducible refine Ops.nil ?_ | with_reducible refine W.region ?_ | refine z_p (kk := ?_) | refine z_a (kk := ?_) | with_reducible refine W.skip ?_ | with_reducible refine W.endb ?_))
      exact W.endl ⟨_, _, ⟨⟨i + 1, rfl, by omega, rfl, rfl, fun p hp => by
        by_cases e2 : p = i
        · rw [e2]; exact fun e3 => e e3.symm
        · exact hno p (by omega)⟩, by omega⟩, (by repeat (first | exact trivial | refine And.intro rfl ?_))⟩
  · have hil : i = xs.length := by omega
    subst hil
    (repeat (first | with_reducible refine W.seq ?_ | with_reducible refine Ops.nil ?_ | with_reducible refine W.region ?_ | refine z_p (kk := ?_) | refine W.exit rfl ?_))
    refine W.fret rfl ⟨⟨-1, rfl, .inl ⟨rfl, fun hm => ?_⟩⟩, rfl⟩
    obtain ⟨q, hq, e⟩ := mem_getDI hm
    exact hno q hq e
theorem IxP.fix {r : List Int} {k : Int} (h : IxP r 0 k) : fixV r r.length = if 0 ∈ r.drop (k + 1).toNat then -1 else k := by
  rcases h with ⟨rfl, hn⟩ | ⟨q, rfl, hq, hz, hb⟩
  · rw [fixV_none (fun p hp e => hn (e ▸ getD_memI hp)), if_neg]
    simpa using hn
  · rw [show ((q : Int) + 1).toNat = q + 1 by omega]
    by_cases hm : 0 ∈ r.drop (q + 1)
    · rw [if_pos hm]
      obtain ⟨p, hp, e⟩ := mem_getDI hm
      rw [List.length_drop] at hp
      refine fixV_many (k := q) (q := q + 1 + p) (by omega) (by omega) hz ?_
      have e2 : r.getD (q + 1 + p) 0 = (r.drop (q + 1)).getD p 0 := by simp [List.getD_eq_getElem?_getD, List.getElem?_drop]
      rw [e2]
      exact e
    · rw [if_neg hm]
      refine fixV_one hq hz (fun p hp e => hb p hp e) (fun p h1 h2 e => hm ?_)
      have : (r.drop (q + 1)).getD (p - (q + 1)) 0 = 0 := by
        have e2 : (r.drop (q + 1)).getD (p - (q + 1)) 0 = r.getD p 0 := by
          simp only [List.getD_eq_getElem?_getD, List.getElem?_drop]
          rw [show q + 1 + (p - (q + 1)) = p by omega]
        rw [e2]
        exact e
      rw [← this]
      exact getD_memI (by rw [List.length_drop]; omega)
/-- The fixed holes of a table of slacks. -/
def fixS (s : List (List Int)) (m : Nat) : List Int := fl m fun i => fixV (s.getD i []) (s.getD i []).length
theorem fixS_succ (s : List (List Int)) (m : Nat) : fixS s (m + 1) = fixS s m ++ [fixV (s.getD m []) (s.getD m []).length] := by simp [fixS, fl, List.range_succ]
set_option maxHeartbeats 2000000 in
theorem Fixed_c {w : World} {cv : Value} {c : List (List Int)} (hM : RowsM w cv c) : Calls Try.prog 31 #[cv] w (Ret fun r w' => Below w.heap.size w w' ∧ (costsB c = false → r = .tuple #[.slice none 0 0, .int .i64 2]) ∧ (costsB c = true → ∃ v, r = .tuple #[v, .int .i64 0] ∧ OI 3 (Value.int .i64) w w' v (fixS (slackS c) c.length))) := by
  obtain ⟨Ac, cc, rfl⟩ := hM.sl
  refine calls_W (vs := [_]) Try.func31 rfl (by kernel_rfl) rfl ?_
  (repeat (first | with_reducible refine W.seq ?_ | with_reducible refine Ops.nil ?_ | with_reducible refine W.region ?_ | refine z_p (kk := ?_)))
  refine Ops.call rfl rfl rfl rfl rfl (areCosts_c hM) (fun r w1 hR => ?_)
  obtain ⟨rfl, hb1⟩ := hR
  cases hc : costsB c with
  | false =>
    (repeat (first | with_reducible refine Ops.nil ?_ | refine z_p (kk := ?_)))
    refine W.condT rfl (by first | rfl | assumption | (simp only [bnf] <;> omega) | (simp only [*, bnf]; done) | fail) ?_
    (repeat (first | with_reducible refine W.seq ?_ | with_reducible refine Ops.nil ?_ | with_reducible refine W.region ?_ | refine z_p (kk := ?_)))
    exact W.fret rfl ⟨hb1, fun _ => rfl, fun h => (by cases h)⟩
  | true =>
    have hC := costs_iff.1 hc
    have hn7 := hC.n7
    (repeat (first | with_reducible refine Ops.nil ?_ | refine z_p (kk := ?_)))
    refine W.condF rfl (by first | rfl | assumption | (simp only [bnf] <;> omega) | (simp only [*, bnf]; done) | fail) ?_
    (repeat (first | with_reducible refine W.seq ?_ | with_reducible refine Ops.nil ?_ | with_reducible refine W.region ?_ | refine z_p (kk := ?_) | with_reducible refine W.skip ?_))
    refine Ops.call rfl rfl rfl rfl rfl (slack_c (hM.below hb1) hC) (fun r w2 hR => ?_)
    obtain ⟨cvs, hR⟩ := hR
    have hb2 := Below.via hb1 hR.o.bel
    have hA2 : ArgR w2 r (slackS c) := hR.argR
    have hsl : (slackS c).length = c.length := by simp [slackS]
    have hrl : ∀ i : Nat, i < c.length → (row (slackS c) i).length = c.length := fun i hi => by simp [row, slackS, List.getD_eq_getElem?_getD, hi, slRow_len]
    generalize slackS c = s at *
    clear hR
    obtain ⟨As, cs, rfl⟩ := hA2.1.sl
    (repeat (first | with_reducible refine Ops.nil ?_ | refine z_p (kk := ?_) | with_reducible refine W.block ?_ | refine z_l (kk := ?_)))
    refine W.loop (fun m ρ w3 => ∃ (i : Nat) (ov : Value), m = s.length - i ∧ i ≤ s.length ∧ ρ = [(4, ov), (12, .slice As s.length cs), (13, .int .i64 s.length), (14, .int .i64 i)] ∧ OI 3 (Value.int .i64) w2 w3 ov (fixS s i))
      ⟨_, _, ⟨0, _, rfl, Nat.zero_le _, rfl, OI.nil (Below.refl _ _)⟩, (by repeat (first | exact trivial | refine And.intro rfl ?_))⟩ ?_
    rintro m ρ w3 ⟨i, ov, rfl, hi, rfl, hO⟩
    have hb3 := hO.bel
    have hfl : (fixS s i).length = i := fl_len _ _
    (repeat (first | with_reducible refine W.seq ?_ | with_reducible refine Ops.nil ?_ | with_reducible refine W.region ?_ | refine z_p (kk := ?_)))
    (first | refine W.condD rfl (fun hc => ?_) (fun hc => ?_) | refine W.condE rfl (fun hc => ?_) (fun hc => ?_) | refine W.condN rfl (fun hc => ?_) (fun hc => ?_) | refine W.cond rfl (fun hc => ?_) (fun hc => ?_))
    · have hil : i < s.length := by omega
      have hri := hrl i (by omega)
      (repeat (first | with_reducible refine W.seq ?_ | with_reducible refine W.region ?_ | with_reducible refine W.skip ?_ | with_reducible refine W.block ?_))
      refine z_R (kk := fun A' m' p hsl2 hcap => ?_)
      have hsl3 := Sl.below hsl2 hb3
      have hrow : row s (i : Int) = s.getD i [] := by simp [row]
      (repeat (first | with_reducible refine W.seq ?_ | with_reducible refine Ops.nil ?_ | with_reducible refine W.region ?_ | refine z_p (kk := ?_)))
      refine Ops.call rfl rfl rfl rfl rfl (index2_c hsl3) (fun r w4 hR => ?_)
      obtain ⟨⟨k, rfl, hk⟩, rfl⟩ := hR
      have hkb : -1 ≤ k ∧ k < (row s (i : Int)).length := by
        rcases hk with ⟨rfl, _⟩ | ⟨q, rfl, hq, _⟩ <;> omega
      have hfx := hk.fix
      (repeat (first | with_reducible refine W.seq ?_ | with_reducible refine Ops.nil ?_ | with_reducible refine W.region ?_ | refine z_p (kk := ?_) | refine z_a (kk := ?_)))
      refine Ops.slL rfl rfl rfl rfl rfl rfl rfl (by omega) (by omega) hcap (fun A2 c2 hA2 => ?_)
      skip
      refine Ops.call rfl rfl rfl rfl rfl (contains_c (sl_drop (c' := c2) hsl3 hA2)) (fun r w5 hR => ?_)
      obtain ⟨rfl, rfl⟩ := hR
      by_cases hm : 0 ∈ (row s (i : Int)).drop (k + 1).toNat
      · rw [if_pos hm] at hfx
        rw [decide_eq_true hm]
        (repeat (first | with_reducible refine Ops.nil ?_))
        refine W.condT rfl (by first | rfl | assumption | (simp only [bnf] <;> omega) | (simp only [*, bnf]; done) | fail) ?_
        (repeat (first | with_reducible refine Ops.nil ?_ | with_reducible refine W.region ?_ | refine z_p (kk := ?_)))
        refine Ops.pushO (enc := Value.int .i64) (u := -1) rfl rfl rfl rfl rfl rfl rfl rfl rfl rfl rfl rfl (fun _ => rfl) rfl hO (by omega) (fun lv' p w6 hO6 k6 hn6 => ?_)
        rw [← hfx, hrow, ← fixS_succ] at hO6
        (repeat (first | with_reducible refine Ops.nil ?_ | with_reducible refine W.region ?_ | refine z_p (kk := ?_) | refine z_a (kk := ?_) | with_reducible refine W.endb ?_))
        exact W.endl ⟨_, _, ⟨⟨i + 1, lv', rfl, by omega, rfl, hO6⟩, by omega⟩, (by repeat (first | exact trivial | refine And.intro rfl ?_))⟩
      · rw [if_neg hm] at hfx
        rw [decide_eq_false hm]
        (repeat (first | with_reducible refine Ops.nil ?_))
        refine W.condF rfl (by first | rfl | assumption | (simp only [bnf] <;> omega) | (simp only [*, bnf]; done) | fail) ?_
        (repeat (first | with_reducible refine W.region ?_ | refine z_p (kk := ?_) | with_reducible refine W.skip ?_))
        refine Ops.pushO (enc := Value.int .i64) (u := k) rfl rfl rfl rfl rfl rfl rfl rfl rfl rfl rfl rfl (fun _ => rfl) rfl hO (by omega) (fun lv' p w6 hO6 k6 hn6 => ?_)
        rw [← hfx, hrow, ← fixS_succ] at hO6
        (repeat (first | with_reducible refine Ops.nil ?_ | with_reducible refine W.region ?_ | refine z_p (kk := ?_) | refine z_a (kk := ?_) | with_reducible refine W.endb ?_))
        exact W.endl ⟨_, _, ⟨⟨i + 1, lv', rfl, by omega, rfl, hO6⟩, by omega⟩, (by repeat (first | exact trivial | refine And.intro rfl ?_))⟩
    · have hil : i = c.length := by omega
      subst hil
      (repeat (first | with_reducible refine W.seq ?_ | with_reducible refine Ops.nil ?_ | with_reducible refine W.region ?_ | refine z_p (kk := ?_) | refine W.exit rfl ?_))
      exact W.fret rfl ⟨Below.via hb2 hb3, fun h => (by cases h), fun _ => ⟨ov, rfl, hO.up hb2⟩⟩
/-- The fixed holes, as the reference finds them. -/
theorem fixA_bd (r : List Int) : ∀ m, -1 ≤ fixA r m ∧ fixA r m < m
  | 0 => by simp [fixA]
  | m + 1 => by
    have := fixA_bd r m
    simp only [fixA]
    split <;> omega
set_option maxHeartbeats 2000000 in
theorem refFixed_c {w : World} {cv : Value} {c : List (List Int)} (hM : RowsM w cv c) (hC : Cst c) : Calls Try.prog 35 #[cv] w (Ret fun r w' => OI 3 (Value.int .i64) w w' r (fixS ((List.range c.length).map fun i => fl c.length fun j => slm c i j (allL c.length).length) c.length)) := by
  have hn7 := hC.n7
  obtain ⟨Ac, cc, rfl⟩ := hM.sl
  refine calls_W (vs := [_]) Try.func35 rfl (by kernel_rfl) rfl ?_
  (repeat (first | with_reducible refine W.seq ?_ | with_reducible refine Ops.nil ?_ | with_reducible refine W.region ?_ | refine z_p (kk := ?_)))
  refine Ops.call rfl rfl rfl rfl rfl (refSlack_c hM hC) (fun r w2 hR => ?_)
  obtain ⟨cvs, hR⟩ := hR
  have hb2 := hR.o.bel
  have hM2 := hR.rowsM
  generalize hs : (List.range c.length).map (fun i => fl c.length fun j => slm c i j (allL c.length).length) = s at *
  have hsl : s.length = c.length := by rw [← hs]; simp
  have hrl : ∀ i : Nat, i < c.length → (row s i).length = c.length := fun i hi => by rw [← hs]; simp [row, List.getD_eq_getElem?_getD, hi, fl_len]
  clear hR hs
  obtain ⟨As, cs, rfl⟩ := hM2.sl
  (repeat (first | with_reducible refine W.seq ?_ | with_reducible refine Ops.nil ?_ | with_reducible refine W.region ?_ | refine z_p (kk := ?_) | with_reducible refine W.block ?_))
  refine W.loop (fun m ρ w3 => ∃ (i : Nat) (ov : Value), m = c.length - i ∧ i ≤ c.length ∧ ρ = [(0, .slice Ac c.length cc), (3, .slice As s.length cs), (4, ov), (5, .int .i64 i)] ∧ OI 3 (Value.int .i64) w2 w3 ov (fixS s i))
    ⟨_, _, ⟨0, _, rfl, Nat.zero_le _, rfl, OI.nil (Below.refl _ _)⟩, (by repeat (first | exact trivial | refine And.intro rfl ?_))⟩ ?_
  rintro m ρ w3 ⟨i, ov, rfl, hi, rfl, hO⟩
  have hb3 := hO.bel
  have hfl : (fixS s i).length = i := fl_len _ _
  (repeat (first | with_reducible refine W.seq ?_ | with_reducible refine Ops.nil ?_ | with_reducible refine W.region ?_ | refine z_p (kk := ?_) | refine z_l (kk := ?_)))
  (first | refine W.condD rfl (fun hc => ?_) (fun hc => ?_) | refine W.condE rfl (fun hc => ?_) (fun hc => ?_) | refine W.condN rfl (fun hc => ?_) (fun hc => ?_) | refine W.cond rfl (fun hc => ?_) (fun hc => ?_))
  · have hil : i < c.length := by omega
    have hri := hrl i hil
    have hrow : row s (i : Int) = s.getD i [] := by simp [row]
    (repeat (first | with_reducible refine W.seq ?_ | with_reducible refine Ops.nil ?_ | with_reducible refine W.region ?_ | refine z_p (kk := ?_) | with_reducible refine W.skip ?_ | with_reducible refine W.block ?_))
    refine W.loop (fun m ρ w4 => ∃ (j : Nat), m = c.length - j ∧ j ≤ c.length ∧ w4 = w3 ∧ ρ = [(0, .slice Ac c.length cc), (3, .slice As s.length cs), (4, ov), (5, .int .i64 i), (6, .int .i64 (fixA (row s i) j)), (7, .int .i64 (ct (zer (row s i)) j : Nat)), (8, .int .i64 j)])
      ⟨_, _, ⟨0, rfl, Nat.zero_le _, rfl, rfl⟩, (by repeat (first | exact trivial | refine And.intro rfl ?_))⟩ ?_
    rintro m ρ w4 ⟨j, rfl, hj, rfl, rfl⟩
    have hcl := ct_le (zer (row s i)) j
    (repeat (first | with_reducible refine W.seq ?_ | with_reducible refine Ops.nil ?_ | with_reducible refine W.region ?_ | refine z_p (kk := ?_) | refine z_l (kk := ?_)))
    (first | refine W.condD rfl (fun hc => ?_) (fun hc => ?_) | refine W.condE rfl (fun hc => ?_) (fun hc => ?_) | refine W.condN rfl (fun hc => ?_) (fun hc => ?_) | refine W.cond rfl (fun hc => ?_) (fun hc => ?_))
    · have hjl : j < c.length := by omega
      have hcs : ct (zer (row s i)) (j + 1) = ct (zer (row s i)) j + if zer (row s i) j = true then 1 else 0 := rfl
      have hfs : fixA (row s i) (j + 1) = if (row s i).getD j 0 = 0 then (j : Int) else fixA (row s i) j := rfl
      by_cases hz : (row s (i : Int)).getD j 0 = 0
      · rw [show zer (row s i) j = true from decide_eq_true hz, if_pos rfl] at hcs
        rw [if_pos hz] at hfs
        (repeat (first | with_reducible refine W.seq ?_ | with_reducible refine Ops.nil ?_ | with_reducible refine W.region ?_ | refine z_p (kk := ?_) | with_reducible refine W.skip ?_ | with_reducible refine W.block ?_ | refine z_I (kk := fun _ => ?_) | refine z_r (kk := fun _ _ _ _ => ?_)))
        refine W.condT rfl (by first | rfl | assumption | (simp only [bnf] <;> omega) | (simp only [*, bnf]; done) | fail) ?_
        (repeat (first | with_reducible refine W.seq ?_ | with_reducible refine Ops.nil ?_ | with_reducible refine W.region ?_ | refine z_p (kk := ?_) | refine z_a (kk := ?_) | with_reducible refine W.endb ?_))
        refine W.endl ⟨_, _, ⟨⟨j + 1, rfl, by omega, rfl, rfl⟩, by omega⟩, ?_⟩
        rw [hcs, hfs]
        exact (by repeat (first | exact trivial | refine And.intro rfl ?_))
      · rw [show zer (row s i) j = false from decide_eq_false hz, if_neg (by simp)] at hcs
        rw [if_neg hz] at hfs
        (repeat (first | with_reducible refine W.seq ?_ | with_reducible refine Ops.nil ?_ | with_reducible refine W.region ?_ | refine z_p (kk := ?_) | with_reducible refine W.skip ?_ | with_reducible refine W.block ?_ | refine z_I (kk := fun _ => ?_) | refine z_r (kk := fun _ _ _ _ => ?_)))
        refine W.condF rfl (by first | rfl | assumption | (simp only [bnf] <;> omega) | (simp only [*, bnf]; done) | fail) ?_
        (repeat (first | with_reducible refine Ops.nil ?_ | with_reducible refine W.region ?_ | refine z_p (kk := ?_) | refine z_a (kk := ?_) | with_reducible refine W.skip ?_ | with_reducible refine W.endb ?_))
        refine W.endl ⟨_, _, ⟨⟨j + 1, rfl, by omega, rfl, rfl⟩, by omega⟩, ?_⟩
        rw [hcs, hfs]
        exact (by repeat (first | exact trivial | refine And.intro rfl ?_))
    · have hjl : j = c.length := by omega
      subst hjl
      have hfx : fixV (s.getD i []) (s.getD i []).length = if 1 < ct (zer (row s i)) c.length then -1 else fixA (row s i) c.length := by
        rw [← hrow, hri]; rfl
      have hfb := fixA_bd (row s i) c.length
      (repeat (first | with_reducible refine W.seq ?_ | with_reducible refine Ops.nil ?_ | with_reducible refine W.region ?_ | refine z_p (kk := ?_) | refine W.exit rfl ?_))
      by_cases h1 : (ct (zer (row s (i : Int))) c.length : Int) > 1
      · rw [if_pos (by omega)] at hfx
        refine W.condT rfl (by first | rfl | assumption | (simp only [bnf] <;> omega) | (simp only [*, bnf]; done) | fail) ?_
        (repeat (first | with_reducible refine Ops.nil ?_ | with_reducible refine W.region ?_ | refine z_p (kk := ?_)))
        refine Ops.pushO (enc := Value.int .i64) (u := -1) rfl rfl rfl rfl rfl rfl rfl rfl rfl rfl rfl rfl (fun _ => rfl) rfl hO (by omega) (fun lv' p w6 hO6 k6 hn6 => ?_)
        rw [← hfx, ← fixS_succ] at hO6
        (repeat (first | with_reducible refine Ops.nil ?_ | with_reducible refine W.region ?_ | refine z_p (kk := ?_) | refine z_a (kk := ?_) | with_reducible refine W.endb ?_))
        exact W.endl ⟨_, _, ⟨⟨i + 1, lv', rfl, by omega, rfl, hO6⟩, by omega⟩, (by repeat (first | exact trivial | refine And.intro rfl ?_))⟩
      · rw [if_neg (by omega)] at hfx
        refine W.condF rfl (by first | rfl | assumption | (simp only [bnf] <;> omega) | (simp only [*, bnf]; done) | fail) ?_
        (repeat (first | with_reducible refine W.region ?_ | refine z_p (kk := ?_) | with_reducible refine W.skip ?_))
        refine Ops.pushO (enc := Value.int .i64) (u := fixA (row s i) c.length) rfl rfl rfl rfl rfl rfl rfl rfl rfl rfl rfl rfl (fun _ => rfl) rfl hO (by omega) (fun lv' p w6 hO6 k6 hn6 => ?_)
        rw [← hfx, ← fixS_succ] at hO6
        (repeat (first | with_reducible refine Ops.nil ?_ | with_reducible refine W.region ?_ | refine z_p (kk := ?_) | refine z_a (kk := ?_) | with_reducible refine W.endb ?_))
        exact W.endl ⟨_, _, ⟨⟨i + 1, lv', rfl, by omega, rfl, hO6⟩, by omega⟩, (by repeat (first | exact trivial | refine And.intro rfl ?_))⟩
  · have hil : i = c.length := by omega
    subst hil
    (repeat (first | with_reducible refine W.seq ?_ | with_reducible refine Ops.nil ?_ | with_reducible refine W.region ?_ | refine z_p (kk := ?_) | refine W.exit rfl ?_))
    exact W.fret rfl (hO.up hb2)
end Go.Proofs.Ytehjmakiljhjdaa
namespace Go.Proofs.Ytehjmakiljhjdaa
open Go Go.RowKit Go.Proofs.Ytehjmakiljhjdaa.VW
attribute [local irreducible] W Ops OrdA VW.Ord OrdX
theorem plm_bd {c : List (List Int)} (hC : Cst c) {i : Nat} (hi : i < c.length) : ∀ m, m ≤ (allL c.length).length → -8000 ≤ plm c i m ∧ plm c i m ≤ 8000
  | 0, _ => by
    have hA := LL_asg (c := c) (q := 0) allL_pos
    have := totB hC hA
    have := hC.bd i (funA (LL c 0) i) hi (hA.funA hi).2
    simp only [plm, eC]
    have e : tt c 0 = totP c (LL c 0) c.length := rfl
    omega
  | m + 1, hm => by
    have ih := plm_bd hC hi m (by omega)
    have hA := LL_asg (c := c) (q := m) (by omega)
    have := totB hC hA
    have := hC.bd i (funA (LL c m) i) hi (hA.funA hi).2
    simp only [plm, eC]
    have e : tt c m = totP c (LL c m) c.length := rfl
    omega
def payR (c : List (List Int)) (m : Nat) : List Int := fl m fun i => minT c - eC c i (funA (firstS c c.length 0) i) - plm c i (allL c.length).length
theorem payR_succ (c : List (List Int)) (m : Nat) : payR c (m + 1) = payR c m ++ [minT c - eC c m (funA (firstS c c.length 0) m) - plm c m (allL c.length).length] := by simp [payR, fl, List.range_succ]
theorem payR_eq {c : List (List Int)} : payR c c.length = paysS c (firstS c c.length 0) c.length := by
  rw [paysS_fl]
  refine fl_congr fun i hi => ?_
  rw [plm_eq hi, firstS_Asg.1, first_tot]
set_option maxHeartbeats 4000000 in
theorem refPays_c {w : World} {cv : Value} {c : List (List Int)} (hM : RowsM w cv c) (hC : Cst c) : Calls Try.prog 36 #[cv] w (Ret fun r w' => OI 3 (Value.int .i64) w w' r (payR c c.length)) := by
  have hn7 := hC.n7
  have hn1 := hC.n1
  have hL := levL_lt (n := c.length) (i := c.length) hn7 hn7
  have hpos := allL_pos (n := c.length)
  change (allL c.length).length ≤ 823543 at hL
  have hmB := minB hC
  obtain ⟨Ac, cc, rfl⟩ := hM.sl
  refine calls_W (vs := [_]) Try.func36 rfl (by kernel_rfl) rfl ?_
  (repeat (first | with_reducible refine W.seq ?_ | with_reducible refine Ops.nil ?_ | with_reducible refine W.region ?_ | refine z_p (kk := ?_) | refine z_l (kk := ?_)))
  refine Ops.call rfl rfl rfl rfl rfl (All_c hn7) (fun r w1 hR => ?_)
  obtain ⟨lvs, hR⟩ := hR
  have hb1 := hR.o.bel
  have hML1 := hR.rowsM
  obtain ⟨AL, cL, rfl⟩ := hML1.sl
  have hrow : ∀ i : Nat, row (allL c.length) i = LL c i := fun i => by simp [row]
  have hasg : ∀ i : Nat, i < (allL c.length).length → Asg (row (allL c.length) i) c.length := fun i hi => by rw [hrow]; exact all_asg hi
  (repeat (first | with_reducible refine W.seq ?_ | with_reducible refine Ops.nil ?_ | with_reducible refine W.region ?_ | refine z_p (kk := ?_)))
  refine Ops.call rfl rfl rfl rfl rfl (refItem0_c (hM.below hb1) hC) (fun fv w2 hR2 => ?_)
  obtain ⟨hF2, hb2⟩ := hR2
  have hFA := firstS_Asg (c := c)
  have hFl := hFA.1
  have hb02 := Below.via hb1 hb2
  have hM2 := hM.below hb02
  have hML := hML1.below hb2
  clear hML1 hR hM
  obtain ⟨Af, cf, rfl⟩ := Sl.shape hF2
  (repeat (first | with_reducible refine W.seq ?_ | with_reducible refine Ops.nil ?_ | with_reducible refine W.region ?_ | refine z_p (kk := ?_) | with_reducible refine W.block ?_))
  refine W.loop (fun m ρ w3 => ∃ (i : Nat) (ov : Value), m = c.length - i ∧ i ≤ c.length ∧ ρ = [(0, .slice Ac c.length cc), (3, .slice AL (allL c.length).length cL), (4, .slice Af (firstS c c.length 0).length cf), (5, ov), (6, .int .i64 i)] ∧ OI 3 (Value.int .i64) w2 w3 ov (payR c i))
    ⟨_, _, ⟨0, _, rfl, Nat.zero_le _, rfl, OI.nil (Below.refl _ _)⟩, (by repeat (first | exact trivial | refine And.intro rfl ?_))⟩ ?_
  rintro m ρ w3 ⟨i, ov, rfl, hi, rfl, hO⟩
  have hb3 := hO.bel
  have hpl : (payR c i).length = i := fl_len _ _
  (repeat (first | with_reducible refine W.seq ?_ | with_reducible refine Ops.nil ?_ | with_reducible refine W.region ?_ | refine z_p (kk := ?_) | refine z_l (kk := ?_)))
  (first | refine W.condD rfl (fun hc => ?_) (fun hc => ?_) | refine W.condE rfl (fun hc => ?_) (fun hc => ?_) | refine W.condN rfl (fun hc => ?_) (fun hc => ?_) | refine W.cond rfl (fun hc => ?_) (fun hc => ?_))
  · have hil : i < c.length := by omega
    have hcl := hC.len i hil
    have hrc : row c (i : Int) = c.getD i [] := by simp [row]
    have hA0 := hasg 0 hpos
    have hl0 := hA0.1
    have hr0 : row (allL c.length) ((0 : Nat) : Int) = row (allL c.length) 0 := rfl
    rw [hr0] at hA0 hl0
    have h0i := (hA0.2 i (by omega)).1
    have hb0 := hC.bd i ((row (allL c.length) 0).getD i 0).toNat hil (by omega)
    have ht0 := totB hC hA0
    rw [← hrc] at hcl hb0
    (repeat (first | with_reducible refine W.seq ?_ | with_reducible refine W.skip ?_ | with_reducible refine W.block ?_))
    refine W.ordA 99 [(0, 1), (1, 1), (2, 1), (3, 2), (4, 2), (5, 1), (6, 1), (7, 1), (8, 2), (9, 1), (10, 1), (11, 2), (12, 1), (13, 1), (14, 2), (15, 1), (16, 2), (17, 1), (18, 1)] rfl (by kernel_rfl) rfl (by kernel_rfl) (fun _ _ _ h => h) ?_
    (repeat (first | refine x_p (kk := ?_) | refine x_r (kk := fun _ _ _ _ => ?_)))
    refine OrdA.call rfl rfl rfl rfl rfl rfl rfl (fun w' hw' => Calls.via hw' (refTotal_c (hM2.below (Below.via hb3 hw')) hC (Sl.below (by assumption) (Below.via hb3 hw')) (fun q hq => (hA0.2 q hq).1) (by rw [hl0]; exact Nat.le_refl _))) ?_
    rw [hl0]
    (repeat (first | refine x_p (kk := ?_) | refine x_a (kk := ?_) | refine x_I (kk := fun _ => ?_) | refine x_K (kk := fun _ => ?_) | refine x_r (kk := fun _ _ _ _ => ?_)))
    refine OrdA.nil (fun w4 hb4 => ?_)
    have hO4 := hO.below hb4
    have hb24 := hO4.bel
    have hp0 : totP c (row (allL c.length) 0) c.length - (row c (i : Int)).getD ((row (allL c.length) 0).getD i 0).toNat 0 = plm c i 0 := by
      simp only [plm, eC, funA, tt, hrc]
      rfl
    (repeat (first | with_reducible refine W.seq ?_ | with_reducible refine Ops.nil ?_ | with_reducible refine W.region ?_ | refine z_p (kk := ?_) | with_reducible refine W.block ?_))
    rw [hp0]
    refine W.loop (fun m ρ w5 => ∃ (k : Nat), m = (allL c.length).length - k ∧ k ≤ (allL c.length).length ∧ ρ = [(0, .slice Ac c.length cc), (3, .slice AL (allL c.length).length cL), (4, .slice Af (firstS c c.length 0).length cf), (5, ov), (6, .int .i64 i), (7, .int .i64 (plm c i k)), (8, .int .i64 k)] ∧ OI 3 (Value.int .i64) w2 w5 ov (payR c i))
      ⟨_, _, ⟨0, rfl, Nat.zero_le _, rfl, hO4⟩, (by repeat (first | exact trivial | refine And.intro rfl ?_))⟩ ?_
    clear hO4 hb24 hO hb3 hb4
    rintro m ρ w5 ⟨k, rfl, hk, rfl, hO⟩
    have hb5 := hO.bel
    have hpb := plm_bd hC hil k hk
    (repeat (first | with_reducible refine W.seq ?_ | with_reducible refine Ops.nil ?_ | with_reducible refine W.region ?_ | refine z_p (kk := ?_) | refine z_l (kk := ?_)))
    (first | refine W.condD rfl (fun hc => ?_) (fun hc => ?_) | refine W.condE rfl (fun hc => ?_) (fun hc => ?_) | refine W.condN rfl (fun hc => ?_) (fun hc => ?_) | refine W.cond rfl (fun hc => ?_) (fun hc => ?_))
    · have hkl : k < (allL c.length).length := by omega
      have hAk := hasg k hkl
      have hlk := hAk.1
      have hki := (hAk.2 i (by omega)).1
      have hbk := hC.bd i ((row (allL c.length) (k : Int)).getD i 0).toNat hil (by omega)
      have htk := totB hC hAk
      rw [← hrc] at hbk
      (repeat (first | with_reducible refine W.seq ?_ | with_reducible refine W.skip ?_ | with_reducible refine W.block ?_))
      refine W.ordA 99 [(0, 1), (1, 1), (2, 1), (3, 1), (4, 1), (5, 2), (6, 2), (7, 1), (8, 1), (9, 1), (10, 2), (11, 1), (12, 1), (13, 1), (14, 2), (15, 1), (16, 1), (17, 2), (18, 1), (19, 2), (20, 1), (21, 1), (22, 1)] rfl (by kernel_rfl) rfl (by kernel_rfl) (fun _ _ _ h => h) ?_
      (repeat (first | refine x_p (kk := ?_) | refine x_r (kk := fun _ _ _ _ => ?_)))
      refine OrdA.call rfl rfl rfl rfl rfl rfl rfl (fun w' hw' => Calls.via hw' (refTotal_c (hM2.below (Below.via hb5 hw')) hC (Sl.below (by assumption) (Below.via hb5 hw')) (fun q hq => (hAk.2 q hq).1) (by rw [hlk]; exact Nat.le_refl _))) ?_
      rw [hlk]
      (repeat (first | refine x_p (kk := ?_) | refine x_a (kk := ?_) | refine x_m (kk := ?_) | refine x_I (kk := fun _ => ?_) | refine x_K (kk := fun _ => ?_) | refine x_r (kk := fun _ _ _ _ => ?_)))
      refine OrdA.nil (fun w6 hb6 => ?_)
      have hpk : min (plm c i k) (totP c (row (allL c.length) (k : Int)) c.length - (row c (i : Int)).getD ((row (allL c.length) (k : Int)).getD i 0).toNat 0) = plm c i (k + 1) := by
        simp only [plm, eC, funA, tt, hrc, hrow]
      (repeat (first | with_reducible refine Ops.nil ?_ | with_reducible refine W.region ?_ | refine z_p (kk := ?_) | refine z_a (kk := ?_) | with_reducible refine W.endb ?_))
      refine W.endl ⟨_, _, ⟨⟨k + 1, rfl, by omega, rfl, hO.below hb6⟩, by omega⟩, ?_⟩
      rw [← hpk]
      exact (by repeat (first | exact trivial | refine And.intro rfl ?_))
    · have hkl : k = (allL c.length).length := by omega
      subst hkl
      have hfi := (hFA.2 i (by omega)).1
      have hbf := hC.bd i ((firstS c c.length 0).getD i 0).toNat hil (by omega)
      rw [← hrc] at hbf
      (repeat (first | refine W.exit rfl ?_))
      refine W.ord (hm := rfl) 99 (fun w' => Below w2.heap.size w2 w') [(0, 1), (1, 1), (2, 1), (4, 1), (5, 1), (6, 1), (7, 2), (8, 1), (9, 1), (10, 1), (11, 2), (12, 1), (13, 2), (15, 1), (3, 0), (14, 1), (16, 1), (17, 0), (18, 0), (19, 1)] (by kernel_rfl) rfl (by kernel_rfl) (fun w6 k6 _ => ⟨Below.put hb5 k6 (fun _ e => e.elim), ?_⟩)
      have hO6 := hO.below (Kp.below k6 (Nat.le_refl _) (fun _ _ e => e))
      (repeat (first | refine y_p (kk := ?_) | refine y_I (kk := fun _ => ?_) | refine y_K (kk := fun _ => ?_) | refine y_r (kk := fun _ _ _ _ => ?_)))
      refine VW.Ord.effF rfl (Ops.call rfl rfl rfl rfl rfl (refTotal_c (hM2.below hO6.bel) hC (Sl.below hF2 hO6.bel) (fun q hq => (hFA.2 q hq).1) (by rw [hFl]; exact Nat.le_refl _)) (fun r w7 hR => Ops.nil (W.endl ⟨Below.via hO6.bel hR.2, ?_⟩)))
      obtain ⟨rfl, hb7⟩ := hR
      rw [hFl, first_tot]
      have hO7 := hO6.below hb7
      (repeat (first | refine y_a (kk := ?_)))
      refine VW.Ord.pushO (enc := Value.int .i64) (u := minT c - (row c (i : Int)).getD ((firstS c c.length 0).getD i 0).toNat 0 - plm c i (allL c.length).length) rfl rfl rfl rfl rfl rfl rfl rfl rfl rfl rfl rfl rfl rfl (fun _ => rfl) rfl hO7 (by omega) below_F hO7.bel (fun lv' p w8 hF8 hO8 k8 hn8 => ?_)
      have he : payR c i ++ [minT c - (row c (i : Int)).getD ((firstS c c.length 0).getD i 0).toNat 0 - plm c i (allL c.length).length] = payR c (i + 1) := by
        rw [payR_succ, hrc]; rfl
      rw [he] at hO8
      (repeat (first | refine y_p (kk := ?_)))
      refine VW.Ord.nil ?_
      (repeat (first | with_reducible refine Ops.nil ?_ | with_reducible refine W.region ?_ | refine z_p (kk := ?_) | refine z_a (kk := ?_) | with_reducible refine W.endb ?_))
      exact W.endl ⟨_, _, ⟨⟨i + 1, lv', rfl, by omega, rfl, hO8⟩, by omega⟩, (by repeat (first | exact trivial | refine And.intro rfl ?_))⟩
  · have hil : i = c.length := by omega
    subst hil
    (repeat (first | with_reducible refine W.seq ?_ | with_reducible refine Ops.nil ?_ | with_reducible refine W.region ?_ | refine z_p (kk := ?_) | refine W.exit rfl ?_))
    exact W.fret rfl (hO.up hb02)
end Go.Proofs.Ytehjmakiljhjdaa
namespace Go.Proofs.Ytehjmakiljhjdaa
open Go Go.RowKit Go.Proofs.Ytehjmakiljhjdaa.VW
attribute [local irreducible] W Ops OrdA VW.Ord OrdX
theorem slack_both {c : List (List Int)} (hC : Cst c) : (List.range c.length).map (fun i => fl c.length fun j => slm c i j (allL c.length).length) = slackS c := by
  unfold slackS
  refine List.map_congr_left fun i hi => ?_
  rw [slRow_fl]
  exact fl_congr fun j hj => slm_eq hC (List.mem_range.1 hi) hj
set_option maxHeartbeats 4000000 in
theorem slacksLaw_c {w : World} {mv : Value} {l : List (List Int)} (hm : ArgR w mv l) :
    Calls Try.prog 5 #[mv] w (Ret fun r w' => r = .bool true ∧ Below w.heap.size w w') := by
  refine calls_W (vs := [_]) Try.func5 rfl (by kernel_rfl) rfl ?_
  (repeat (first | with_reducible refine W.seq ?_ | with_reducible refine Ops.nil ?_ | with_reducible refine W.region ?_ | refine z_p (kk := ?_)))
  refine Ops.call rfl rfl rfl rfl rfl (table_c hm) (fun tv w1 hR => ?_)
  obtain ⟨cvs, hR⟩ := hR
  have hb1 := hR.o.bel
  have hM1 := hR.rowsM
  clear hR hm
  generalize tab l = c at *
  (repeat (first | with_reducible refine W.seq ?_ | with_reducible refine Ops.nil ?_ | with_reducible refine W.region ?_ | refine z_p (kk := ?_)))
  cases hc : costsB c with
  | false =>
    refine Ops.call rfl rfl rfl rfl rfl (Slack_c hM1) (fun r w2 hR2 => ?_)
    obtain ⟨rfl, hb2⟩ := hR2.1 hc
    have hM2 := hM1.below hb2
    (repeat (first | with_reducible refine W.seq ?_ | with_reducible refine Ops.nil ?_ | with_reducible refine W.region ?_ | refine z_p (kk := ?_)))
    refine Ops.call rfl rfl rfl rfl rfl (Fixed_c hM2) (fun r w3 hR3 => ?_)
    obtain ⟨hb3, hR3, -⟩ := hR3
    obtain rfl := hR3 hc
    have hM3 := hM2.below hb3
    (repeat (first | with_reducible refine W.seq ?_ | with_reducible refine Ops.nil ?_ | with_reducible refine W.region ?_ | refine z_p (kk := ?_)))
    refine Ops.call rfl rfl rfl rfl rfl (pays_c hM3) (fun r w4 hR4 => ?_)
    obtain ⟨rfl, hb4⟩ := hR4.1 hc
    have hM4 := hM3.below hb4
    (repeat (first | with_reducible refine W.seq ?_ | with_reducible refine Ops.nil ?_ | with_reducible refine W.region ?_ | refine z_p (kk := ?_)))
    refine Ops.call rfl rfl rfl rfl rfl (refCosts_c hM4) (fun r w5 hR5 => ?_)
    obtain ⟨rfl, hb5⟩ := hR5
    rw [hc]
    (repeat (first | with_reducible refine Ops.nil ?_ | refine z_p (kk := ?_)))
    refine W.condT rfl (by first | rfl | assumption | (simp only [bnf] <;> omega) | (simp only [*, bnf]; done) | fail) ?_
    (repeat (first | with_reducible refine W.seq ?_ | with_reducible refine W.region ?_ | refine z_p (kk := ?_) | refine z_y (kk := ?_) | refine z_l (kk := ?_)))
    refine Ops.call rfl rfl rfl rfl rfl (awake_c _) (fun r w6 hR => ?_)
    obtain ⟨rfl, hb6⟩ := hR
    (repeat (first | with_reducible refine Ops.nil ?_ | refine z_p (kk := ?_)))
    exact W.fret rfl ⟨rfl, Below.via hb1 (Below.via hb2 (Below.via hb3 (Below.via hb4 (Below.via hb5 hb6))))⟩
  | true =>
    have hC := costs_iff.1 hc
    refine Ops.call rfl rfl rfl rfl rfl (Slack_c hM1) (fun r w2 hR2 => ?_)
    obtain ⟨sv, scv, rfl, hS⟩ := hR2.2 hc
    have hb2 := hS.o.bel
    have hMS : RowsM w2 sv (slackS c) := hS.rowsM
    have hM2 := hM1.below hb2
    (repeat (first | with_reducible refine W.seq ?_ | with_reducible refine Ops.nil ?_ | with_reducible refine W.region ?_ | refine z_p (kk := ?_)))
    refine Ops.call rfl rfl rfl rfl rfl (Fixed_c hM2) (fun r w3 hR3 => ?_)
    obtain ⟨hb3, -, hR3⟩ := hR3
    obtain ⟨fv, rfl, hF⟩ := hR3 hc
    have hM3 := hM2.below hb3
    (repeat (first | with_reducible refine W.seq ?_ | with_reducible refine Ops.nil ?_ | with_reducible refine W.region ?_ | refine z_p (kk := ?_)))
    refine Ops.call rfl rfl rfl rfl rfl (pays_c hM3) (fun r w4 hR4 => ?_)
    obtain ⟨pv, rfl, hP⟩ := hR4.2 hc
    have hb4 := hP.bel
    have hM4 := hM3.below hb4
    (repeat (first | with_reducible refine W.seq ?_ | with_reducible refine Ops.nil ?_ | with_reducible refine W.region ?_ | refine z_p (kk := ?_)))
    refine Ops.call rfl rfl rfl rfl rfl (refCosts_c hM4) (fun r w5 hR5 => ?_)
    obtain ⟨rfl, hb5⟩ := hR5
    have hM5 := hM4.below hb5
    rw [hc]
    (repeat (first | with_reducible refine Ops.nil ?_ | refine z_p (kk := ?_)))
    refine W.condF rfl (by first | rfl | assumption | (simp only [bnf] <;> omega) | (simp only [*, bnf]; done) | fail) ?_
    (repeat (first | with_reducible refine W.seq ?_ | with_reducible refine W.region ?_ | refine z_p (kk := ?_) | with_reducible refine W.skip ?_))
    refine Ops.call rfl rfl rfl rfl rfl (refSlack_c hM5 hC) (fun rv w6 hR6 => ?_)
    obtain ⟨rvs, hR6⟩ := hR6
    have hb6 := hR6.o.bel
    have hMR := hR6.rowsM
    rw [slack_both hC] at hMR
    have hM6 := hM5.below hb6
    have hb46 := Below.via hb5 hb6
    have hb36 := Below.via hb4 hb46
    have hb26 := Below.via hb3 hb36
    skip
    refine Ops.call rfl rfl rfl rfl rfl (tables_c (hMS.below hb26) hMR) (fun r w7 hR7 => ?_)
    obtain ⟨rfl, hb7⟩ := hR7
    rw [decide_eq_true rfl]
    have hM7 := hM6.below hb7
    (repeat (first | refine z_p (kk := ?_) | refine z_y (kk := ?_)))
    refine Ops.call rfl rfl rfl rfl rfl (refFixed_c hM7 hC) (fun gv w8 hG => ?_)
    have hb8 := hG.bel
    rw [slack_both hC] at hG
    have hM8 := hM7.below hb8
    (repeat (first | refine z_y (kk := ?_)))
    refine Ops.call rfl rfl rfl rfl rfl (ints_c (Sl.below hF.sl (Below.via hb36 (Below.via hb7 hb8))) hG.sl) (fun r w9 hR9 => ?_)
    obtain ⟨rfl, hb9⟩ := hR9
    rw [decide_eq_true rfl]
    have hM9 := hM8.below hb9
    (repeat (first | refine z_p (kk := ?_) | refine z_y (kk := ?_)))
    refine Ops.call rfl rfl rfl rfl rfl (refPays_c hM9 hC) (fun qv w10 hQ => ?_)
    have hb10 := hQ.bel
    rw [payR_eq] at hQ
    have hb810 := Below.via hb9 hb10
    (repeat (first | refine z_y (kk := ?_)))
    refine Ops.call rfl rfl rfl rfl rfl (ints_c (Sl.below hP.sl (Below.via hb46 (Below.via hb7 (Below.via hb8 hb810)))) hQ.sl) (fun r w11 hR11 => ?_)
    obtain ⟨rfl, hb11⟩ := hR11
    rw [decide_eq_true rfl]
    (repeat (first | refine z_p (kk := ?_) | refine z_y (kk := ?_)))
    refine Ops.call rfl rfl rfl rfl rfl (awake_c _) (fun r w12 hR => ?_)
    obtain ⟨rfl, hb12⟩ := hR
    (repeat (first | with_reducible refine Ops.nil ?_ | refine z_p (kk := ?_)))
    exact W.fret rfl ⟨rfl, Below.via hb1 (Below.via hb2 (Below.via hb26 (Below.via hb7 (Below.via hb8 (Below.via hb810 (Below.via hb11 hb12))))))⟩
end Go.Proofs.Ytehjmakiljhjdaa
namespace Go.Proofs.Ytehjmakiljhjdaa
open Go Go.RowKit Go.Proofs.Ytehjmakiljhjdaa.VW
attribute [local irreducible] W Ops OrdA VW.Ord OrdX
theorem oi_arg {w0 w : World} {v : Value} {xs : List Int} (h : OI 3 (Value.int .i64) w0 w v xs) : Arg w v xs := by
  have hs := h.sl (z := (0 : Int))
  obtain ⟨A, c, rfl⟩ := h.sh
  exact ⟨hs, A, c, rfl, own_cap h.own⟩
theorem Total_c {w : World} {cv lv : Value} {c : List (List Int)} {a : List Int} (hM : RowsM w cv c) (hl : Arg w lv a) : Calls Try.prog 38 #[cv, lv] w (Ret fun r w' => r = (if costsB c = true ∧ Asg a c.length then .tuple #[.int .i64 (totP c a c.length), .int .i64 0] else .tuple #[.int .i64 0, .int .i64 2]) ∧ Below w.heap.size w w') := by
  obtain ⟨Ac, cc, rfl⟩ := hM.sl
  obtain ⟨Al, cl, rfl⟩ := Sl.shape hl.1
  refine calls_W (vs := [_, _]) Try.func38 rfl (by kernel_rfl) rfl ?_
  (repeat (first | with_reducible refine W.seq ?_ | with_reducible refine Ops.nil ?_ | with_reducible refine W.region ?_ | refine z_p (kk := ?_)))
  refine Ops.call rfl rfl rfl rfl rfl (areCosts_c hM) (fun r w1 hR => ?_)
  obtain ⟨rfl, hb1⟩ := hR
  cases hc : costsB c with
  | false =>
    (repeat (first | with_reducible refine Ops.nil ?_ | refine z_p (kk := ?_) | refine z_n (kk := ?_)))
    refine W.condT rfl (by first | rfl | assumption | (simp only [bnf] <;> omega) | (simp only [*, bnf]; done) | fail) ?_
    (repeat (first | with_reducible refine W.seq ?_ | with_reducible refine Ops.nil ?_ | with_reducible refine W.region ?_ | refine z_p (kk := ?_)))
    refine W.fret rfl ⟨?_, hb1⟩
    rw [if_neg (by simp)]
    rfl
  | true =>
    have hC := costs_iff.1 hc
    have hn7 := hC.n7
    (repeat (first | refine z_p (kk := ?_) | refine z_y (kk := ?_)))
    refine Ops.call rfl rfl rfl rfl rfl (isAsg_c (hM.below hb1) hn7 (hl.below hb1)) (fun r w2 hR => ?_)
    obtain ⟨rfl, rfl⟩ := hR
    by_cases hA : Asg a c.length
    · rw [decide_eq_true hA]
      (repeat (first | with_reducible refine Ops.nil ?_ | refine z_p (kk := ?_) | refine z_y (kk := ?_)))
      refine W.condF rfl (by first | rfl | assumption | (simp only [bnf] <;> omega) | (simp only [*, bnf]; done) | fail) ?_
      (repeat (first | with_reducible refine W.seq ?_ | with_reducible refine W.region ?_ | refine z_p (kk := ?_) | with_reducible refine W.skip ?_))
      refine Ops.call rfl rfl rfl rfl rfl (total_c (hM.below hb1) hC (Sl.below hl.1 hb1) (fun i hi => (hA.2 i hi).1) (by rw [hA.1]; exact Nat.le_refl _)) (fun r w3 hR => ?_)
      obtain ⟨rfl, rfl⟩ := hR
      (repeat (first | with_reducible refine Ops.nil ?_ | refine z_p (kk := ?_)))
      refine W.fret rfl ⟨?_, hb1⟩
      rw [if_pos ⟨rfl, hA⟩, hA.1]
      rfl
    · rw [decide_eq_false hA]
      (repeat (first | with_reducible refine Ops.nil ?_ | refine z_p (kk := ?_) | refine z_y (kk := ?_)))
      refine W.condT rfl (by first | rfl | assumption | (simp only [bnf] <;> omega) | (simp only [*, bnf]; done) | fail) ?_
      (repeat (first | with_reducible refine W.seq ?_ | with_reducible refine Ops.nil ?_ | with_reducible refine W.region ?_ | refine z_p (kk := ?_)))
      refine W.fret rfl ⟨?_, hb1⟩
      rw [if_neg (by simp [hA])]
      rfl
end Go.Proofs.Ytehjmakiljhjdaa
/- Plain: what prices, slacks, payments and fixed holes say of each other. -/
namespace Go.Proofs.Ytehjmakiljhjdaa
open Go Go.RowKit Go.Proofs.Ytehjmakiljhjdaa.VW
theorem sN_one {g h : Nat → Int} {i : Nat} : ∀ n, (∀ q, q < n → g q ≤ h q) → i < n → sN g n + (h i - g i) ≤ sN h n
  | 0, _, hi => by omega
  | n + 1, hle, hi => by
    simp only [sN]
    have h1 := hle n (by omega)
    by_cases e : i = n
    · subst e
      have := sN_le i (fun q hq => hle q (by omega))
      omega
    · have := sN_one n (fun q hq => hle q (by omega)) (show i < n by omega)
      omega
theorem Prov.room {c : List (List Int)} {a u v b : List Int} (h : Prov c a u v) (hb : Asg b c.length) {i : Nat} (hi : i < c.length) : totP c a c.length + (ent c i (funA b i) - u.getD i 0 - v.getD (funA b i) 0) ≤ totP c b c.length := by
  obtain ⟨h1, h2, h3, h4, h5, h6⟩ := h
  rw [← h6, sumP_sN, totP_sN, ← sN_asg (g := fun i => v.getD i 0) hb, ← sN_add]
  have := sN_one (g := fun i => u.getD i 0 + v.getD (funA b i) 0) (h := fun i => eC c i (funA b i)) c.length (fun q hq => h5 q hq _ (hb.funA hq).2) hi
  have e : ent c i (funA b i) = eC c i (funA b i) := rfl
  rw [e]
  omega
theorem slE {c : List (List Int)} {i j : Nat} : slackE c i j = eC c i j + restS c (gI i) c.length (2 ^ j) - minT c := by
  unfold slackE
  rw [first_tot]
  rfl
theorem slE_nonneg {c : List (List Int)} {i j : Nat} (hi : i < c.length) (hj : j < c.length) : 0 ≤ slackE c i j := by
  obtain ⟨b, hB, hbj, hbt⟩ := sl_att (c := c) hi hj
  have := min_le hB
  rw [slE]
  omega
theorem slE_le {c : List (List Int)} {i j : Nat} {b : List Int} (hi : i < c.length) (hB : Asg b c.length) (hj : funA b i = j) : slackE c i j ≤ totP c b c.length - minT c := by
  have := sl_le hB hi hj
  rw [slE]
  omega
theorem slE_first {c : List (List Int)} {i : Nat} (hi : i < c.length) : slackE c i (funA (firstS c c.length 0) i) = 0 := by
  have hA := firstS_Asg (c := c)
  have h1 := slE_le hi hA rfl
  have h2 := slE_nonneg hi (hA.funA hi).2
  rw [first_tot] at h1
  omega
theorem slackS_get {c : List (List Int)} {i : Nat} (hi : i < c.length) : (slackS c).getD i [] = fl c.length (slackE c i) := by
  unfold slackS
  rw [← slRow_fl]
  simp [List.getD_eq_getElem?_getD, hi]
theorem slackS_ent {c : List (List Int)} {i j : Nat} (hi : i < c.length) (hj : j < c.length) : ((slackS c).getD i []).getD j 0 = slackE c i j := by
  rw [slackS_get hi, fl_get hj]
theorem fixA_zero {r : List Int} : ∀ m, (∃ q, q < m ∧ r.getD q 0 = 0) → ∃ q, fixA r m = (q : Nat) ∧ q < m ∧ r.getD q 0 = 0
  | 0, ⟨q, hq, _⟩ => by omega
  | m + 1, ⟨q, hq, hz⟩ => by
    simp only [fixA]
    by_cases e : r.getD m 0 = 0
    · rw [if_pos e]; exact ⟨m, rfl, by omega, e⟩
    · rw [if_neg e]
      obtain ⟨p, p1, p2, p3⟩ := fixA_zero m ⟨q, by
        rcases Nat.lt_or_ge q m with h | h
        · exact h
        · obtain rfl : q = m := by omega
          exact absurd hz e, hz⟩
      exact ⟨p, p1, by omega, p3⟩
/-- The prices of a cheapest assignment, and all that hangs on them. -/
structure PF (c : List (List Int)) (a u v x p o : List Int) : Prop where
  al : a.length = c.length
  ul : u.length = c.length
  vl : v.length = c.length
  xl : x.length = c.length
  pll : p.length = c.length
  ol : o.length = c.length
  ab : ∀ i, i < c.length → 0 ≤ a.getD i 0 ∧ a.getD i 0 < c.length
  ub : ∀ i, i < c.length → (-1000000 ≤ u.getD i 0 ∧ u.getD i 0 ≤ 1000000) ∧ (-1000000 ≤ v.getD i 0 ∧ v.getD i 0 ≤ 1000000)
  h1 : ∀ i, i < c.length → ((slackS c).getD i []).length = c.length
  h2 : ∀ i, i < c.length → 0 ≤ p.getD i 0
  h3 : ∀ i, i < c.length → ((slackS c).getD i []).getD (a.getD i 0).toNat 0 = 0
  h4 : ∀ i, i < c.length → x.getD i 0 = -1 ∨ x.getD i 0 = a.getD i 0
  h5 : ∀ i, i < c.length → u.getD i 0 + v.getD (a.getD i 0).toNat 0 = (c.getD i []).getD (a.getD i 0).toNat 0
  h6 : ∀ i j, i < c.length → j < c.length → ((slackS c).getD i []).getD j 0 = 0 → u.getD i 0 + v.getD j 0 = (c.getD i []).getD j 0
  h7 : ∀ i j, i < c.length → j < c.length → 0 ≤ ((slackS c).getD i []).getD j 0
  h8 : ∀ i j, i < c.length → j < c.length → (c.getD i []).getD j 0 - u.getD i 0 - v.getD j 0 ≤ ((slackS c).getD i []).getD j 0
  h9 : ∀ i j, i < c.length → j < c.length → o.getD i 0 = (j : Int) → ((slackS c).getD i []).getD j 0 ≤ totP c o c.length - minT c
  h10 : ∀ i, i < c.length → (1 < ct (zer ((slackS c).getD i [])) c.length ↔ x.getD i 0 = -1)
theorem pf {c : List (List Int)} {u v o : List Int} (hC : Cst c) (h : Prov c (firstS c c.length 0) u v) (ho : Asg o c.length) : PF c (firstS c c.length 0) u v (fixS (slackS c) c.length) (paysS c (firstS c c.length 0) c.length) o := by
  have hA := firstS_Asg (c := c)
  have hsl : ∀ i, i < c.length → ((slackS c).getD i []).length = c.length := fun i hi => by rw [slackS_get hi, fl_len]
  have hx : ∀ i, i < c.length → (fixS (slackS c) c.length).getD i 0 = fixV ((slackS c).getD i []) c.length := fun i hi => by
    unfold fixS
    rw [fl_get hi, hsl i hi]
  have hz : ∀ i, i < c.length → ((slackS c).getD i []).getD (funA (firstS c c.length 0) i) 0 = 0 := fun i hi => by rw [slackS_ent hi (hA.funA hi).2, slE_first hi]
  have hfa : ∀ i, funA (firstS c c.length 0) i = ((firstS c c.length 0).getD i 0).toNat := fun i => rfl
  refine ⟨hA.1, h.2.1, h.2.2.1, fl_len _ _, paysS_len _, ho.1, fun i hi => (hA.2 i (by rw [hA.1]; exact hi)).1, fun i hi => h.2.2.2.1 i hi, hsl, fun i hi => ?_, fun i hi => ?_, fun i hi => ?_, fun i hi => ?_, fun i j hi hj hs => ?_, fun i j hi hj => ?_, fun i j hi hj => ?_, fun i j hi hj hoj => ?_, fun i hi => ?_⟩
  · rw [paysS_fl, fl_get hi, hA.1]
    have := pay_le hA hi
    omega
  · rw [← hfa]; exact hz i hi
  · rw [hx i hi]
    unfold fixV
    split
    · exact .inl rfl
    · rename_i hn
      right
      obtain ⟨q, q1, q2, q3⟩ := fixA_zero c.length ⟨_, (hA.funA hi).2, hz i hi⟩
      rw [q1, (hA.funA hi).1]
      have : q = funA (firstS c c.length 0) i := Classical.byContradiction fun hne => by
        have hm : ∀ k l, k < l → l < c.length → ((slackS c).getD i []).getD k 0 = 0 → ((slackS c).getD i []).getD l 0 = 0 → False := fun k l hkl hl h1 h2 => by
          have hv := fixV_many hkl hl h1 h2
          unfold fixV at hv
          rw [if_neg hn, q1] at hv
          omega
        rcases Nat.lt_or_ge q (funA (firstS c c.length 0) i) with l | l
        · exact hm _ _ l (hA.funA hi).2 q3 (hz i hi)
        · exact hm _ _ (by omega) q2 (hz i hi) q3
      rw [this]
  · exact h.tight hA rfl hi
  · rw [slackS_ent hi hj] at hs
    obtain ⟨b, hB, hbj, hbt⟩ := sl_att (c := c) hi hj
    have ht := h.tight hB (by rw [first_tot, ← hbt]; have := slE (c := c) (i := i) (j := j); omega) hi
    rw [hbj] at ht
    exact ht
  · rw [slackS_ent hi hj]; exact slE_nonneg hi hj
  · rw [slackS_ent hi hj]
    obtain ⟨b, hB, hbj, hbt⟩ := sl_att (c := c) hi hj
    have := h.room hB hi
    rw [hbj, first_tot, ← hbt] at this
    have e := slE (c := c) (i := i) (j := j)
    have e2 : ent c i j = (c.getD i []).getD j 0 := rfl
    omega
  · rw [slackS_ent hi hj]
    exact slE_le hi ho (by have := (ho.funA hi).1; omega)
  · rw [hx i hi]
    unfold fixV
    constructor
    · intro h; rw [if_pos h]
    · intro h2
      apply Classical.byContradiction
      intro hn
      rw [if_neg hn] at h2
      obtain ⟨q, q1, _, _⟩ := fixA_zero c.length ⟨_, (hA.funA hi).2, hz i hi⟩
      omega
end Go.Proofs.Ytehjmakiljhjdaa
