/- A part of the walk: what this seat's statements share. -/
import Derived.Test.YtdiljpnfochndaaZG9
import Derived.Test.YtdiljpnfochndaaZG12
import Derived.Test.YtdiljpnfochndaaZG8
set_option linter.unusedVariables false
set_option linter.unusedSimpArgs false
set_option linter.unusedSectionVars false
/- How many plans: sums and products that stay small. -/
namespace Go.Proofs.Ytdiljpnfochndaa.HP
def prodL : List Int → Int
  | [] => 1
  | x :: r => x * prodL r
theorem prodL_snoc : ∀ (l : List Int) (z : Int), prodL (l ++ [z]) = prodL l * z
  | [], z => by simp [prodL]
  | x :: r, z => by simp only [List.cons_append, prodL]; rw [prodL_snoc r z, Int.mul_assoc]
theorem sumL_snoc : ∀ (l : List Int) (z : Int), sumL (l ++ [z]) = sumL l + z
  | [], z => by simp [sumL]
  | x :: r, z => by simp only [List.cons_append, sumL]; rw [sumL_snoc r z]; omega
def PLN (l : List Nd) (dep : List Int) (b : Int) (ps : List Int) (j : Int) : Int :=
  if leafB l j then (if b ≤ wor l j then 1 else 0) else if evB dep j then sumL ((kid l j).map (rd ps)) else prodL ((kid l j).map (rd ps))
structure PlsP (l : List Nd) (dep : List Int) (b : Int) (ps : List Int) : Prop where
  len : ps.length = l.length
  at_ : ∀ j : Nat, j < l.length → ps.getD j 0 = PLN l dep b ps j
theorem PLN_congr {l : List Nd} {dep : List Int} (h : TF l dep) {i : Nat} (hi : i < l.length) {b : Int} {vs us : List Int} (he : ∀ j : Nat, i < j → j < l.length → vs.getD j 0 = us.getD j 0) : PLN l dep b vs i = PLN l dep b us i := by
  unfold PLN
  rw [map_rd_congr h hi he]
theorem pls_set {l : List Nd} {dep : List Int} (h : TF l dep) {b : Int} {os : List Int} {q : Nat} (hq : q < l.length) (hol : os.length = l.length) {x : Int} (hx : x = PLN l dep b os q) (hval : ∀ j : Nat, q + 1 ≤ j → j < l.length → os.getD j 0 = PLN l dep b os j) :
    ∀ j : Nat, q ≤ j → j < l.length → (os.set q x).getD j 0 = PLN l dep b (os.set q x) j := by
  intro j h1 h2
  have hc : PLN l dep b (os.set q x) j = PLN l dep b os j := PLN_congr h h2 fun i hi hil => getD_set_ne (by omega)
  rw [hc]
  by_cases e : q = j
  · subst e; rw [getD_set_eq (by omega)]; exact hx
  · rw [getD_set_ne e]; exact hval j (by omega) h2
theorem PlsP.uniq {l : List Nd} {dep : List Int} (h : TF l dep) {b : Int} {vs us : List Int} (hv : PlsP l dep b vs) (hu : PlsP l dep b us) : vs = us := by
  have key : ∀ d j : Nat, l.length - j = d → j < l.length → vs.getD j 0 = us.getD j 0 := by
    intro d
    induction d using Nat.strongRecOn with
    | _ d ih =>
      intro j hd hj
      rw [hv.at_ j hj, hu.at_ j hj]
      exact PLN_congr h hj fun q hq hql => ih (l.length - q) (by omega) q rfl hql
  apply List.ext_getElem (by rw [hv.len, hu.len])
  intro j h1 h2
  have := key _ j rfl (by rw [← hv.len]; exact h1)
  simpa [List.getD_eq_getElem?_getD, h1, h2] using this
/-! ### Leaves below -/
def LN (l : List Nd) (es : List Ef) (j : Int) : Ef := if leafB l j then (1, [j]) else (kid l j).foldl (joinF es) (0, [])
theorem join_congr {es us : List Ef} : ∀ (cs : List Int) (a : Ef), (∀ c ∈ cs, ed es c = ed us c) → cs.foldl (joinF es) a = cs.foldl (joinF us) a
  | [], _, _ => rfl
  | c :: r, a, h => by
    have hj : joinF es a c = joinF us a c := by unfold joinF; rw [h c (by simp)]
    rw [List.foldl_cons, List.foldl_cons, hj]
    exact join_congr r _ fun x hx => h x (by simp [hx])
theorem LN_congr {l : List Nd} {dep : List Int} (h : TF l dep) {i : Nat} (hi : i < l.length) {es us : List Ef} (he : ∀ j : Nat, i < j → j < l.length → es.getD j (0, []) = us.getD j (0, [])) : LN l es i = LN l us i := by
  unfold LN
  rw [join_congr (es := es) (us := us) (kid l i) _ fun c hc => by
    obtain ⟨h1, h2⟩ := mem_kid h hi hc
    exact he c.toNat (by omega) (by omega)]
theorem efset_eq {dep : List Ef} {c : Nat} {x : Ef} (h : c < dep.length) : (dep.set c x).getD c (0, []) = x := by
  rw [List.getD_eq_getElem?_getD, List.getElem?_set_self h]; rfl
theorem efset_ne {dep : List Ef} {c d : Nat} {x : Ef} (h : c ≠ d) : (dep.set c x).getD d (0, []) = dep.getD d (0, []) := by
  rw [List.getD_eq_getElem?_getD, List.getElem?_set_ne h, ← List.getD_eq_getElem?_getD]
theorem leaves_ex {l : List Nd} {dep : List Int} (hT : TF l dep) : ∃ es : List Ef, ∀ j : Nat, j < l.length → es.getD j (0, []) = LN l es j := by
  have key : ∀ d q : Nat, l.length - q = d → q ≤ l.length → ∃ os : List Ef, os.length = l.length ∧ ∀ j : Nat, q ≤ j → j < l.length → os.getD j (0, []) = LN l os j := by
    intro d
    induction d with
    | zero => intro q hd hq; exact ⟨List.replicate l.length (0, []), by simp, fun j h1 h2 => by omega⟩
    | succ d ih =>
      intro q hd hq
      obtain ⟨os, h1, h2⟩ := ih (q + 1) (by omega) (by omega)
      refine ⟨os.set q (LN l os q), by simp [h1], fun j h3 h4 => ?_⟩
      have hc : LN l (os.set q (LN l os q)) j = LN l os j := LN_congr hT h4 fun i hi hil => efset_ne (by omega)
      rw [hc]
      by_cases e : q = j
      · subst e; rw [efset_eq (by omega)]
      · rw [efset_ne e]; exact h2 j (by omega) h4
  obtain ⟨os, h1, h2⟩ := key _ 0 rfl (Nat.zero_le _)
  exact ⟨os, fun j hj => h2 j (Nat.zero_le _) hj⟩
def lenS (es : List Ef) : List Int → Nat
  | [] => 0
  | c :: r => (ed es c).2.length + lenS es r
theorem join_lenS {es : List Ef} : ∀ (cs : List Int) (a : Ef), (cs.foldl (joinF es) a).2.length = a.2.length + lenS es cs
  | [], _ => rfl
  | c :: r, a => by
    rw [List.foldl_cons, join_lenS r]
    simp only [joinF, List.length_append, lenS]
    omega
theorem lenS_take {es : List Ef} : ∀ (cs : List Int) (t : Nat), lenS es (cs.take t) ≤ lenS es cs
  | [], t => by simp [lenS]
  | c :: r, 0 => by simp [lenS]
  | c :: r, t + 1 => by simp only [List.take_succ_cons, lenS]; have := lenS_take (es := es) r t; omega
theorem pow_ge (n : Nat) : (1 : Int) ≤ 2 ^ n := by
  have : (1 : Int) ≤ ((2 ^ n : Nat) : Int) := by have := Nat.one_le_two_pow (n := n); omega
  simpa using this
theorem mul_ge {A B : Int} (ha : 1 ≤ A) (hb : 1 ≤ B) : A + B ≤ A * B + 1 := by
  have h := Int.mul_nonneg (show (0 : Int) ≤ A - 1 by omega) (show (0 : Int) ≤ B - 1 by omega)
  rw [Int.sub_mul, Int.mul_sub, Int.mul_sub] at h
  omega
theorem sum_pow {es : List Ef} {x : Int → Int} : ∀ (cs : List Int), (∀ c ∈ cs, 0 ≤ x c ∧ x c + 1 ≤ 2 ^ (ed es c).2.length) → 0 ≤ sumL (cs.map x) ∧ sumL (cs.map x) + 1 ≤ 2 ^ lenS es cs
  | [], _ => by simp [sumL, lenS]
  | c :: r, h => by
    have h1 := h c (by simp)
    have h2 := sum_pow r fun y hy => h y (by simp [hy])
    have h3 := mul_ge (pow_ge (ed es c).2.length) (pow_ge (lenS es r))
    simp only [List.map_cons, sumL, lenS, Int.pow_add]
    omega
theorem prod_pow {es : List Ef} {x : Int → Int} : ∀ (cs : List Int), cs ≠ [] → (∀ c ∈ cs, 0 ≤ x c ∧ x c + 1 ≤ 2 ^ (ed es c).2.length) → 0 ≤ prodL (cs.map x) ∧ prodL (cs.map x) + 1 ≤ 2 ^ lenS es cs
  | [], h, _ => absurd rfl h
  | [c], _, h => by
    have h1 := h c (by simp)
    simp only [List.map_cons, List.map_nil, prodL, lenS, Int.mul_one, Nat.add_zero]
    exact h1
  | c :: d :: r, _, h => by
    have h1 := h c (by simp)
    have h2 := prod_pow (d :: r) (by simp) fun y hy => h y (by simp [List.mem_cons.1 hy])
    generalize hM : prodL ((d :: r).map x) = M at *
    generalize hB : lenS es (d :: r) = B at *
    have e1 : prodL ((c :: d :: r).map x) = x c * M := by rw [← hM]; rfl
    have e2 : lenS es (c :: d :: r) = (ed es c).2.length + B := by rw [← hB]; rfl
    rw [e1, e2, Int.pow_add]
    have p1 := pow_ge (ed es c).2.length
    have p2 := pow_ge B
    have h3 := mul_ge p1 p2
    generalize (2 : Int) ^ (ed es c).2.length = A at *
    generalize (2 : Int) ^ B = C at *
    have h4 : x c * M ≤ (A - 1) * (C - 1) := Int.mul_le_mul (by omega) (by omega) h2.1 (by omega)
    rw [Int.sub_mul, Int.mul_sub, Int.mul_sub] at h4
    exact ⟨Int.mul_nonneg h1.1 h2.1, by omega⟩
/-- Numbers of plans are small, and so are what they are summed up and multiplied from. -/
theorem pls_small {l : List Nd} {dep : List Int} (hT : TF l dep) {b : Int} {q : Nat} {ps : List Int} (hval : ∀ j : Nat, q ≤ j → j < l.length → ps.getD j 0 = PLN l dep b ps j) {es : List Ef} (hes : ∀ j : Nat, j < l.length → es.getD j (0, []) = LN l es j) :
    ∀ j : Nat, j < l.length → q ≤ j → GoodE l j (es.getD j (0, [])).2 ∧ 0 ≤ ps.getD j 0 ∧ ps.getD j 0 + 1 ≤ 2 ^ (es.getD j (0, [])).2.length := by
  refine tree_ind hT (Q := fun j => q ≤ j → GoodE l j (es.getD j (0, [])).2 ∧ 0 ≤ ps.getD j 0 ∧ ps.getD j 0 + 1 ≤ 2 ^ (es.getD j (0, [])).2.length) fun j hj hk hq => ?_
  have kD : ∀ c ∈ kid l j, GoodE l c (ed es c).2 ∧ 0 ≤ rd ps c ∧ rd ps c + 1 ≤ 2 ^ (ed es c).2.length := fun c hc => by
    obtain ⟨h1, _⟩ := mem_kid hT hj hc
    obtain ⟨i, rfl, hi, h⟩ := hk c hc
    exact h (by omega)
  rw [hes j hj, hval j hq hj]
  unfold LN PLN
  by_cases hl : leafB l j = true
  · rw [if_pos hl, if_pos hl]
    refine ⟨⟨fun x hx => ?_, by simp⟩, by split <;> omega, by simp; split <;> omega⟩
    simp at hx
    subst hx
    exact ⟨by omega, by omega, hl, 0, rfl⟩
  · have hne := leaf_ne hl
    have hg := (good_join hT hj (fun c hc => (kD c hc).1) (kid l j).length (Nat.le_refl _)).1
    rw [List.take_length] at hg
    rw [if_neg hl, if_neg hl]
    refine ⟨hg, ?_⟩
    rw [join_lenS]
    simp only [List.length_nil, Nat.zero_add]
    split
    · exact sum_pow _ fun c hc => (kD c hc).2
    · exact prod_pow _ hne fun c hc => (kD c hc).2
theorem pow60 {n : Nat} (h : n ≤ 60) : (2 : Int) ^ n ≤ 1152921504606846976 := by
  have := Nat.pow_le_pow_right (n := 2) (by omega) h
  have h2 : ((2 ^ n : Nat) : Int) ≤ ((2 ^ 60 : Nat) : Int) := by omega
  simpa using h2
/-- On the way at node p. -/
theorem pls_part {l : List Nd} {dep : List Int} (hT : TF l dep) {b : Int} {p : Nat} (hp : p < l.length) {ps : List Int} (hval : ∀ j : Nat, p + 1 ≤ j → j < l.length → ps.getD j 0 = PLN l dep b ps j) :
    (∀ c ∈ kid l p, 0 ≤ rd ps c ∧ rd ps c ≤ 1152921504606846976) ∧ ∀ t, 0 ≤ sumL (((kid l p).map (rd ps)).take t) ∧ sumL (((kid l p).map (rd ps)).take t) ≤ 1152921504606846976 ∧ 0 ≤ prodL (((kid l p).map (rd ps)).take t) ∧ prodL (((kid l p).map (rd ps)).take t) ≤ 1152921504606846976 := by
  obtain ⟨es, hes⟩ := leaves_ex hT
  have hs := pls_small hT hval hes
  have kD : ∀ c ∈ kid l p, GoodE l c (ed es c).2 ∧ 0 ≤ rd ps c ∧ rd ps c + 1 ≤ 2 ^ (ed es c).2.length := fun c hc => by
    obtain ⟨h1, h2⟩ := mem_kid hT hp hc
    have := hs c.toNat (by omega) (by omega)
    rw [show ((c.toNat : Nat) : Int) = c by omega] at this
    exact this
  have h60 := hT.n60
  have hg := (good_join hT hp (fun c hc => (kD c hc).1) (kid l p).length (Nat.le_refl _)).1.len
  rw [List.take_length, join_lenS] at hg
  simp only [List.length_nil, Nat.zero_add] at hg
  refine ⟨fun c hc => ⟨(kD c hc).2.1, ?_⟩, fun t => ?_⟩
  · have := (kD c hc).1.len
    have := pow60 (n := (ed es c).2.length) (by omega)
    have := (kD c hc).2.2
    omega
  · have hl := lenS_take (es := es) (kid l p) t
    have hpw := pow60 (n := lenS es ((kid l p).take t)) (by omega)
    have hk : ∀ c ∈ (kid l p).take t, 0 ≤ rd ps c ∧ rd ps c + 1 ≤ 2 ^ (ed es c).2.length := fun c hc => (kD c (List.mem_of_mem_take hc)).2
    rw [← List.map_take]
    have h1 := sum_pow _ hk
    refine ⟨h1.1, by omega, ?_⟩
    by_cases hne : (kid l p).take t = []
    · rw [hne]; simp [prodL]
    · have h2 := prod_pow _ hne hk
      exact ⟨h2.1, by omega⟩
end Go.Proofs.Ytdiljpnfochndaa.HP
namespace Go.Proofs.Ytdiljpnfochndaa
open Go Go.RowKit Go.Proofs.Ytdiljpnfochndaa.VW
open Go.Proofs.Ytdiljpnfochndaa.HP (Nd kid wor leafB rd evB gameOf gameOf_TF TF TK ValP NV k_ PI PlanS Dn far kid_mem_at maxL minL maxL_ge minL_ge maxL_le minL_le maxL_mem minL_mem leaf_ne tree_ind PLN PlsP sumL prodL LineS lineN line_step val_bd)
attribute [local irreducible] W Ops OrdA VW.Ord OrdX Wi OpsI
theorem val_ev {l : List Nd} {dep vs : List Int} {wf : Int → Int} (hv : ValP l dep wf vs) {i : Nat} (hi : i < l.length) (hl : leafB l i = false) (he : evB dep i = true) : vs.getD i 0 = maxL ((kid l i).map (rd vs)) := by
  rw [hv.at_ i hi]; unfold NV; rw [hl, he]; rfl
theorem val_od {l : List Nd} {dep vs : List Int} {wf : Int → Int} (hv : ValP l dep wf vs) {i : Nat} (hi : i < l.length) (hl : leafB l i = false) (he : evB dep i = false) : vs.getD i 0 = minL ((kid l i).map (rd vs)) := by
  rw [hv.at_ i hi]; unfold NV; rw [hl, he]; rfl
theorem val_lf {l : List Nd} {dep vs : List Int} {wf : Int → Int} (hv : ValP l dep wf vs) {i : Nat} (hi : i < l.length) (hl : leafB l i = true) : vs.getD i 0 = wf i := by
  rw [hv.at_ i hi]; unfold NV; rw [hl]; rfl
/-- A reached leaf below that is worth no more than the node. -/
theorem low_leaf {l : List Nd} {dep xs vs : List Int} {bs : List Bool} (hT : TF l dep) (hv : ValP l dep (wor l) vs) (hbs : RP l dep (rd xs) l.length 0 bs) (hok : OkP l dep xs bs) :
    ∀ d i : Nat, l.length - i = d → i < l.length → bs.getD i false = true → ∃ j : Nat, j < l.length ∧ (bs.getD j false && leafB l j) = true ∧ wor l j ≤ vs.getD i 0 := by
  intro d
  induction d using Nat.strongRecOn with
  | _ d ih =>
    intro i hd hi hb
    cases hl : leafB l i with
    | true => exact ⟨i, hi, by rw [hb, hl]; rfl, by rw [val_lf hv hi hl]; exact Int.le_refl _⟩
    | false =>
      have hne : kid l i ≠ [] := leaf_ne (by rw [hl]; simp)
      have hstep : ∀ c ∈ kid l i, rd vs c ≤ vs.getD i 0 → (evB dep i = true → c = rd xs i) → ∃ j : Nat, j < l.length ∧ (bs.getD j false && leafB l j) = true ∧ wor l j ≤ vs.getD i 0 := fun c hc hle he => by
        obtain ⟨b, hbk, rfl⟩ := kid_mem_at hc
        have hk := hT.kin i b hi hbk
        have hs := hbs.fB hi hbk hT
        rw [hb] at hs
        obtain ⟨j, h1, h2, h3⟩ := ih (l.length - (k_ l i b).toNat) (by omega) (k_ l i b).toNat rfl (by omega) (by
          rw [hs]
          cases hev : evB dep i with
          | false => rfl
          | true => simp [he hev])
        exact ⟨j, h1, h2, Int.le_trans h3 hle⟩
      cases hev : evB dep i with
      | true =>
        have := hok i hi
        unfold okN at this
        rw [hb, hev, hl, if_pos (by rfl)] at this
        have hm := of_decide_eq_true this
        refine hstep _ hm ?_ (fun _ => rfl)
        rw [val_ev hv hi hl hev]
        exact (maxL_le hne).1 (Int.le_refl _) _ hm
      | false =>
        obtain ⟨c, hc, he⟩ := minL_mem (g := rd vs) hne
        exact hstep c hc (by rw [val_od hv hi hl hev, he]; exact Int.le_refl _) (fun h => by rw [hev] at h; cases h)
theorem lst_le {l : List Nd} {f : Nat → Bool} {z b : Int} : ∀ {i j : Nat}, j < i → (f j && leafB l j) = true → wor l j ≤ b → lst l f z i ≤ b
  | 0, j, h, _, _ => by omega
  | i + 1, j, h, hl, hw => by
    simp only [lst]
    by_cases e : j = i
    · subst e; rw [if_pos hl]; omega
    · have := lst_le (z := z) (show j < i by omega) hl hw
      split <;> omega
theorem lst_ge {l : List Nd} {f : Nat → Bool} {z b : Int} (hz : b ≤ z) : ∀ {i : Nat}, (∀ j : Nat, j < i → (f j && leafB l j) = true → b ≤ wor l j) → b ≤ lst l f z i
  | 0, _ => hz
  | i + 1, h => by
    have ih := lst_ge hz (i := i) fun j hj => h j (by omega)
    simp only [lst]
    split
    · rename_i e; have := h i (by omega) e; omega
    · exact ih
theorem ok_best {l : List Nd} {dep vs out : List Int} {f : Int → Bool} {bs : List Bool} (hT : TF l dep) (hv : ValP l dep (wor l) vs) (hP : PlanS l dep (chB l vs) f out) (hbs : RP l dep (rd out) l.length 0 bs) :
    OkP l dep out bs ∧ ∀ i : Nat, i < l.length → bs.getD i false = true → vs.getD 0 0 ≤ vs.getD i 0 := by
  have hro : ∀ i : Nat, rd out i = out.getD i 0 := fun i => rfl
  have hf : ∀ i : Nat, i < l.length → f i = bs.getD i false := by
    have := st_uniq hT (f := f) (g := fun c => bs.getD c.toNat false) (by rw [hP.r0]; exact hbs.r0.symm) (fun a b ha hb e => by
      have e' : f a = bs.getD a false := e
      show f (k_ l a b) = bs.getD (k_ l a b).toNat false
      rw [hP.step a b ha hb, hbs.fB ha hb hT, ← e']
      cases hfa : f a with
      | false => rfl
      | true =>
        cases he : evB dep a with
        | false => rfl
        | true =>
          have hd := hP.done a ha
          rw [hfa, he, inner_of_kid hb, if_pos (by rfl)] at hd
          rw [hro, hd])
    exact fun i hi => this i hi
  refine ⟨fun i hi => ?_, ?_⟩
  · have hd := hP.done i hi
    unfold okN
    rw [← hf i hi]
    split
    · rename_i h
      rw [if_pos h] at hd
      simp only [Bool.and_eq_true, Bool.not_eq_true'] at h
      rw [hro, hd]
      exact decide_eq_true (chB_mem hv hi h.2)
    · rename_i h
      rw [if_neg h] at hd
      exact decide_eq_true (by rw [hro, hd])
  · intro i
    induction i using Nat.strongRecOn with
    | _ i ih =>
      intro hi hb
      by_cases e : i = 0
      · subst e; exact Int.le_refl _
      · obtain ⟨a, b, ha, hbk, hk⟩ := hT.cov i (by omega) hi
        have hlt := hT.kin a b ha hbk
        have hs := hbs.fB ha hbk hT
        rw [hk] at hs
        simp only [Int.toNat_natCast] at hs
        rw [hb] at hs
        have hs := hs.symm
        simp only [Bool.and_eq_true] at hs
        have hlf := inner_of_kid hbk
        have hne : kid l a ≠ [] := leaf_ne (by rw [hlf]; simp)
        have hmem : (i : Int) ∈ kid l a := by
          rw [← hk]; unfold k_
          rw [List.getD_eq_getElem?_getD, List.getElem?_eq_getElem hbk]
          simp
        refine Int.le_trans (ih a (by omega) ha hs.1) ?_
        have hri : rd vs (i : Int) = vs.getD i 0 := rfl
        cases hev : evB dep a with
        | true =>
          rw [hev] at hs
          have hc : (i : Int) = rd out a := by simpa [hk] using hs.2
          have hd := hP.done a ha
          rw [hf a ha, hs.1, hev, hlf, if_pos (by rfl)] at hd
          rw [hro, hd] at hc
          have := (Go.Proofs.Ytdiljpnfochndaa.HP.bestM_mem (Go.Proofs.Ytdiljpnfochndaa.HP.val_att hv ha hlf)).2
          rw [← hri, hc]
          exact Int.le_of_eq this.symm
        | false =>
          rw [val_od hv ha hlf hev, ← hri]
          exact (minL_ge hne).1 (Int.le_refl _) _ hmem
theorem best_lst {l : List Nd} {dep vs out : List Int} {f : Int → Bool} {bs : List Bool} (hT : TF l dep) (hv : ValP l dep (wor l) vs) (hP : PlanS l dep (chB l vs) f out) (hbs : RP l dep (rd out) l.length 0 bs) :
    lst l (fun i => bs.getD i false) far l.length = vs.getD 0 0 := by
  obtain ⟨hok, hge⟩ := ok_best hT hv hP hbs
  have hn := hT.n1
  obtain ⟨j, h1, h2, h3⟩ := low_leaf hT hv hbs hok _ 0 rfl hT.n1 hbs.r0
  have hbd := val_bd hT hv (lo := -100) (hi := 100) (fun i hi _ => by have := hT.wor i hi; omega) 0 hT.n1
  refine Int.le_antisymm (lst_le h1 h2 h3) (lst_ge (by unfold far; omega) fun j hj hl => ?_)
  simp only [Bool.and_eq_true] at hl
  have := hge j hj hl.1
  rw [val_lf hv hj hl.2] at this
  exact this
theorem any_lst {l : List Nd} {dep vs xs : List Int} {bs : List Bool} (hT : TF l dep) (hv : ValP l dep (wor l) vs) (hbs : RP l dep (rd xs) l.length 0 bs) (hok : OkP l dep xs bs) : lst l (fun i => bs.getD i false) far l.length ≤ vs.getD 0 0 := by
  obtain ⟨j, h1, h2, h3⟩ := low_leaf hT hv hbs hok _ 0 rfl hT.n1 hbs.r0
  exact lst_le h1 h2 h3
theorem prod_ge {g : Int → Int} : ∀ (cs : List Int), (∀ c ∈ cs, 0 ≤ g c) → 0 ≤ prodL (cs.map g) ∧ ((∀ c ∈ cs, 1 ≤ g c) → 1 ≤ prodL (cs.map g))
  | [], _ => ⟨by simp [prodL], fun _ => by simp [prodL]⟩
  | c :: r, h => by
    obtain ⟨h1, h2⟩ := prod_ge r (fun c hc => h c (by simp [hc]))
    have hc := h c (by simp)
    simp only [List.map_cons, prodL]
    refine ⟨Int.mul_nonneg hc h1, fun hq => ?_⟩
    have a1 := hq c (by simp)
    have a2 := h2 fun c hc => hq c (by simp [hc])
    have := Int.mul_le_mul a1 a2 (by omega) (by omega)
    omega
theorem sum_ge {g : Int → Int} : ∀ (cs : List Int), (∀ c ∈ cs, 0 ≤ g c) → 0 ≤ sumL (cs.map g) ∧ ((∃ c ∈ cs, 1 ≤ g c) → 1 ≤ sumL (cs.map g))
  | [], _ => ⟨by simp [sumL], fun ⟨c, hc, _⟩ => by simp at hc⟩
  | c :: r, h => by
    obtain ⟨h1, h2⟩ := sum_ge r (fun c hc => h c (by simp [hc]))
    have hc := h c (by simp)
    simp only [List.map_cons, sumL]
    refine ⟨by omega, fun ⟨d, hd, hq⟩ => ?_⟩
    rcases List.mem_cons.1 hd with rfl | hd
    · omega
    · have := h2 ⟨d, hd, hq⟩
      omega
theorem pls_ge {l : List Nd} {dep vs ps : List Int} {b : Int} (hT : TF l dep) (hv : ValP l dep (wor l) vs) (hp : PlsP l dep b ps) : ∀ j : Nat, j < l.length → 0 ≤ ps.getD j 0 ∧ (b ≤ vs.getD j 0 → 1 ≤ ps.getD j 0) := by
  refine tree_ind hT (Q := fun j => 0 ≤ ps.getD j 0 ∧ (b ≤ vs.getD j 0 → 1 ≤ ps.getD j 0)) fun j hj hk => ?_
  have hk0 : ∀ c ∈ kid l j, 0 ≤ rd ps c := fun c hc => by obtain ⟨i, rfl, _, h⟩ := hk c hc; exact h.1
  have hk1 : ∀ c ∈ kid l j, b ≤ rd vs c → 1 ≤ rd ps c := fun c hc hb => by obtain ⟨i, rfl, _, h⟩ := hk c hc; exact h.2 hb
  rw [hp.at_ j hj]
  unfold PLN
  cases hl : leafB l j with
  | true =>
    rw [if_pos rfl, val_lf hv hj hl]
    split <;> exact ⟨by omega, fun _ => by omega⟩
  | false =>
    have hne : kid l j ≠ [] := leaf_ne (by rw [hl]; simp)
    rw [if_neg (by simp)]
    cases hev : evB dep j with
    | true =>
      rw [if_pos rfl]
      obtain ⟨h1, h2⟩ := sum_ge (kid l j) hk0
      refine ⟨h1, fun hb => h2 ?_⟩
      rw [val_ev hv hj hl hev] at hb
      obtain ⟨c, hc, hcb⟩ := (maxL_ge hne).1 hb
      exact ⟨c, hc, hk1 c hc hcb⟩
    | false =>
      rw [if_neg (by simp)]
      obtain ⟨h1, h2⟩ := prod_ge (kid l j) hk0
      refine ⟨h1, fun hb => h2 fun c hc => hk1 c hc ?_⟩
      rw [val_od hv hj hl hev] at hb
      exact (minL_ge hne).1 hb c hc
/-- Where the line ends. -/
theorem line_end {l : List Nd} {dep vs out : List Int} (hT : TF l dep) (hv : ValP l dep (wor l) vs) (h : LineS l vs out) : 1 ≤ out.length ∧ ∃ j : Nat, out.getD (out.length - 1) 0 = j ∧ j < l.length ∧ leafB l j = true ∧ wor l j = vs.getD 0 0 := by
  obtain ⟨k, rfl, h1, h2⟩ := h
  have key : ∀ m, m ≤ k → ∃ j : Nat, lineN l vs m = j ∧ j < l.length ∧ vs.getD j 0 = vs.getD 0 0 := by
    intro m
    induction m with
    | zero => exact fun _ => ⟨0, rfl, hT.n1, rfl⟩
    | succ m ih =>
      intro hm
      obtain ⟨j, e, hj, hvj⟩ := ih (by omega)
      have hl := h1 m (by omega)
      rw [e] at hl
      obtain ⟨j', e', _, hj', hv'⟩ := line_step hT hv e hj hl
      exact ⟨j', e', hj', by rw [hv', hvj]⟩
  obtain ⟨j, e, hj, hvj⟩ := key k (Nat.le_refl _)
  rw [e] at h2
  refine ⟨by simp, j, ?_, hj, h2, by rw [← val_lf hv hj h2, hvj]⟩
  simp [List.getD_eq_getElem?_getD, e]
end Go.Proofs.Ytdiljpnfochndaa
namespace Go.Proofs.Ytdiljpnfochndaa
open Go Go.RowKit Go.Proofs.Ytdiljpnfochndaa.VW
open Go.Proofs.Ytdiljpnfochndaa.HP (Nd kid wor leafB rd evB gameOf gameOf_TF TF TK ValP k_)
attribute [local irreducible] W Ops OrdA VW.Ord OrdX Wi OpsI
theorem kp_putObj {w : World} {r : Nat} (o : Obj) : Kp (fun k => k = r) w (w.putObj r o) := (Kp.of_grown (grownBy_putObj' w r o)).mono fun k _ e => by cases e; rfl
theorem at_kp {S : Nat → Prop} {w w' : World} {b : Nat} {o : Obj} (h : w.heap[b]? = some o) (k : Kp S w w') (hs : ¬ S b) : w'.heap[b]? = some o := (k.blk b (Array.getElem?_eq_some_iff.1 h).1 hs).trans h
/-- for i := range g.leaves(): 'I i' before node i. -/
theorem JW.leaves {wE : World} {g b97 id p nT : Nat} {gx : Operand} {l : List Nd} {dep : List Int} {assign body c2 : Code} {Φ : Post} {ds : List Deferred} {ρ : E} {I : Nat → World → Prop} (hT : TF l dep)
    (hg : ev ρ gx = some (.func (.func 97) #[] #[.pointer (some ⟨b97, 0, none⟩)])) (hi2 : inB nT c2 = true) (hp : Nat.blt p nT = true)
    (hI : ∀ i W, I i W → Blk W b97 #[.pointer (some ⟨g, 0, none⟩)] 69 ∧ Game W g l dep)
    (hIk : ∀ i W W', I i W → Kp (fun k => wE.heap.size ≤ k) W W' → I i W')
    (hno : ∀ i W, I i W → i < l.length → leafB l i = false → I (i + 1) W) (h0 : I 0 wE)
    (hround : ∀ L i W, I i W → i < l.length → leafB l i = true → wE.heap.size ≤ L → Wi (some L) Try.prog nT [] assign (fun e ρ1 w1 => e = .normal ∧ w1 = W ∧ ∀ W', I i W' → Wi (some L) Try.prog nT [] body (fun e ρ2 w2 => e = .normal ∧ I (i + 1) w2 ∧ Kp (fun k => k < wE.heap.size) W' w2) ρ1 W') ((p, .int .i64 i) :: ρ) W)
    (hdone : ∀ D W3, I l.length W3 → W3.heap[D]? = some (.deferred (some [])) → wE.heap.size ≤ D → W Try.prog nT ({ target := .collected D, args := #[] } :: ds) [.code c2] (fun e ρ w => e = .ret ∧ w.heap[D]? = some (.deferred (some [])) ∧ Φ .ret ρ (w.putObj D (.deferred none))) ρ W3) :
    JW Try.prog nT ds Φ c2 (.block id (.rangeFunc gx #[p] assign body)) ρ wE := by
  refine JW.range (lb := [.pointer (some ⟨b97, 0, none⟩)]) (gf := 97) hg (Fns.call (P := Try.prog) (by exact rfl)) hi2 (fun fn tmps hrep D W1 hD hW1 => ?_)
  subst hD hW1
  have ka := (mk_alloc wE (.deferred (some []))).kp
  have kb := (mk_alloc (wE.alloc (.deferred (some []))) (.loop (loopRec fn tmps #[p] assign body wE.heap.size))).kp
  have h1 := hIk _ _ _ h0 ((ka.trans kb).mono fun k _ e => by rcases e with e | e <;> exact e.elim)
  have hsz : (wE.alloc (.deferred (some []))).heap.size = wE.heap.size + 1 := (mk_alloc wE _).size
  have hD1 : ((wE.alloc (.deferred (some []))).alloc (.loop (loopRec fn tmps #[p] assign body wE.heap.size))).heap[wE.heap.size]? = some (.deferred (some [])) := at_kp (mk_alloc wE (.deferred (some []))).at_ kb (fun e => e)
  have hL1 : ((wE.alloc (.deferred (some []))).alloc (.loop (loopRec fn tmps #[p] assign body wE.heap.size))).heap[wE.heap.size + 1]? = some (.loop (loopRec fn tmps #[p] assign body wE.heap.size)) := by
    have := (mk_alloc (wE.alloc (.deferred (some []))) (.loop (loopRec fn tmps #[p] assign body wE.heap.size))).at_
    rw [hsz] at this
    exact this
  refine CallsIn.mono (leaves1_in (lp := wE.heap.size + 1) (g := g) (b1 := b97) hT (J := fun i W => I i W ∧ W.heap[wE.heap.size]? = some (.deferred (some [])) ∧ W.heap[wE.heap.size + 1]? = some (.loop (loopRec fn tmps #[p] assign body wE.heap.size)))
    (fun i W h => hI i W h.1) (fun i W h hi hl => ⟨hno i W h.1 hi hl, h.2⟩) (fun i W h hi hl => ?_) ⟨h1, hD1, hL1⟩) ?_
  · obtain ⟨hi1, hd, hl1⟩ := h
    refine round_in hl1 hrep hp ((hround _ i W hi1 hi hl (by omega)).mono ?_)
    rintro e ρ1 w1 ⟨rfl, rfl, hb⟩
    refine ⟨rfl, _, hl1, rfl, ?_⟩
    have hk := kp_putObj (w := w1) (r := wE.heap.size + 1) (.loop { (loopRec fn tmps #[p] assign body wE.heap.size) with state := .busy })
    have hlt := (Array.getElem?_eq_some_iff.1 hl1).1
    refine (hb _ (hIk _ _ _ hi1 (hk.mono fun k _ e => by omega))).mono ?_
    rintro e ρ2 w2 ⟨rfl, hi2', hk2⟩
    have hl2 : w2.heap[wE.heap.size + 1]? = some (.loop { (loopRec fn tmps #[p] assign body wE.heap.size) with state := .busy }) := at_kp (World.putObj_heap_same hlt) hk2 (fun e => by omega)
    have hd2 : w2.heap[wE.heap.size]? = some (.deferred (some [])) := at_kp (at_kp hd hk (fun e => by omega)) hk2 (fun e => by omega)
    have hlt2 := (Array.getElem?_eq_some_iff.1 hl2).1
    have hk3 := kp_putObj (w := w2) (r := wE.heap.size + 1) (.loop (loopRec fn tmps #[p] assign body wE.heap.size))
    exact ⟨rfl, _, hl2, rfl, hIk _ _ _ hi2' (hk3.mono fun k _ e => by omega), at_kp hd2 hk3 (fun e => by omega), World.putObj_heap_same hlt2⟩
  · rintro e W2 ⟨v, rfl, hi2', hd, hl2⟩
    refine ⟨v, rfl, _, hl2, rfl, rfl, hd, ?_⟩
    rintro W3 rfl
    have hk3 := kp_putObj (w := W2) (r := wE.heap.size + 1) (.loop { (loopRec fn tmps #[p] assign body wE.heap.size) with state := .exhausted })
    exact hdone _ _ (hIk _ _ _ hi2' (hk3.mono fun k _ e => by omega)) (at_kp hd hk3 (fun e => by omega)) (Nat.le_refl _)
end Go.Proofs.Ytdiljpnfochndaa
namespace Go.Proofs.Ytdiljpnfochndaa
open Go Go.RowKit Go.Proofs.Ytdiljpnfochndaa.VW
open Go.Proofs.Ytdiljpnfochndaa.HP (Nd kid wor leafB rd evB gameOf gameOf_TF TF TK ValP k_ PI PlanS Dn far kid_mem_at)
attribute [local irreducible] W Ops OrdA VW.Ord OrdX Wi OpsI
theorem asked_all {l : List Nd} {dep : List Int} {f : Int → Bool} {p : Int → Bool} {n : Nat} : (asked l dep f n).all p = true ↔ ∀ i : Nat, i < n → f i = true → evB dep i = true → leafB l i = false → p i = true := by
  unfold asked
  simp only [List.all_eq_true, List.mem_map, List.mem_filter, List.mem_range, Bool.and_eq_true, Bool.not_eq_true']
  constructor
  · intro h i hi h1 h2 h3
    exact h i ⟨i, ⟨hi, ⟨h1, h2⟩, h3⟩, rfl⟩
  · rintro h x ⟨i, ⟨hi, ⟨h1, h2⟩, h3⟩, rfl⟩
    exact h i hi h1 h2 h3
theorem chk_mem {l : List Nd} {xs : List Int} {i : Int} (h : leafB l i = false) : chk l xs i ∈ kid l i := by
  unfold chk
  split
  · assumption
  · unfold leafB at h
    cases hk : kid l i with
    | nil => rw [hk] at h; simp at h
    | cons a r => simp
theorem PI.same {l : List Nd} {dep : List Int} {ch : Int → Int} {i : Nat} {f : Int → Bool} {out : List Int} {bs' : List Bool} (hT : TF l dep) (h : PI l dep ch i f out) (h' : RP l dep ch l.length 0 bs') : ∀ c : Nat, c ≤ i → c < l.length → f c = bs'.getD c false := by
  intro c
  induction c using Nat.strongRecOn with
  | _ c ih =>
    intro hc hn
    by_cases e : c = 0
    · subst e; rw [h'.r0]; exact h.r0
    · obtain ⟨a, b, ha, hb, hk⟩ := hT.cov c (by omega) hn
      have hl := hT.kin a b ha hb
      have h1 := h.step a b (by omega) hb
      have h2 := h'.step a b (.inl ha) hb
      rw [hk] at h1 h2
      simp only [Int.toNat_natCast] at h2
      rw [h1, h2, ih a (by omega) (by omega) ha]
theorem leavesF_c (w : World) (p : Option Addr) : Calls Try.prog 84 #[.pointer p] w (Ret fun r w' => ∃ b, r = .func (.func 97) #[] #[.pointer (some ⟨b, 0, none⟩)] ∧ Blk w' b #[.pointer p] 69 ∧ Below w.heap.size w w' ∧ w.heap.size ≤ b) := by
  refine calls_W (vs := [_]) Try.func84 rfl (by kernel_rfl) rfl ?_
  (repeat (first | with_reducible refine W.seq ?_ | with_reducible refine Ops.nil ?_ | with_reducible refine W.region ?_ | refine z_p (kk := ?_) | refine z_a (kk := ?_) | refine z_y (kk := ?_) | refine z_n (kk := ?_) | refine z_u (kk := ?_) | with_reducible refine W.skip ?_ | with_reducible refine W.endb ?_ | with_reducible refine W.block ?_ | refine W.exit rfl ?_ | refine z_l (kk := ?_) | refine z_f (kk := ?_) | refine z_M (kk := ?_) | refine z_m (kk := ?_) | refine z_e (kk := ?_) | refine z_E (kk := ?_) | refine z_d (kk := ?_) | refine z_I (kk := fun _ => ?_) | refine z_J (kk := fun _ => ?_) | refine z_K (kk := fun _ => ?_) | refine z_L (kk := fun _ => ?_) | refine z_T (kk := ?_) | refine z_F (kk := ?_) | refine z_k (kk := fun _ _ _ _ _ => ?_) | refine z_w (kk := fun _ _ => ?_) | refine z_s (kk := fun _ _ _ _ => ?_) | refine z_D (kk := ?_) | refine z_g (kk := ?_) | refine z_h (kk := ?_)))
  refine Ops.box rfl rfl rfl rfl (fun w1 b hM => ?_)
  have hb1 : Below w.heap.size w w1 := hM.kp.below (Nat.le_refl _) (fun _ _ e => e)
  (repeat (first | with_reducible refine W.seq ?_ | with_reducible refine Ops.nil ?_ | with_reducible refine W.region ?_ | refine z_p (kk := ?_) | refine z_a (kk := ?_) | refine z_y (kk := ?_) | refine z_n (kk := ?_) | refine z_u (kk := ?_) | with_reducible refine W.skip ?_ | with_reducible refine W.endb ?_ | with_reducible refine W.block ?_ | refine W.exit rfl ?_ | refine z_l (kk := ?_) | refine z_f (kk := ?_) | refine z_M (kk := ?_) | refine z_m (kk := ?_) | refine z_e (kk := ?_) | refine z_E (kk := ?_) | refine z_d (kk := ?_) | refine z_I (kk := fun _ => ?_) | refine z_J (kk := fun _ => ?_) | refine z_K (kk := fun _ => ?_) | refine z_L (kk := fun _ => ?_) | refine z_T (kk := ?_) | refine z_F (kk := ?_) | refine z_k (kk := fun _ _ _ _ _ => ?_) | refine z_w (kk := fun _ _ => ?_) | refine z_s (kk := fun _ _ _ _ => ?_) | refine z_D (kk := ?_) | refine z_g (kk := ?_) | refine z_h (kk := ?_)))
  exact W.fret rfl ⟨b, rfl, hM.at_, hb1, by have := hM.r_eq; omega⟩
def CheckR (l : List Nd) (xs : List Int) (bsF : List Bool) (r : Value) : Prop := match gameOf l with
  | none => r = .tuple #[.int .i64 0, .int .i64 2]
  | some dep => (xs.length = l.length ∧ OkP l dep xs bsF ∧ r = .tuple #[.int .i64 (lst l (fun i => bsF.getD i false) far l.length), .int .i64 0]) ∨ (¬ (xs.length = l.length ∧ OkP l dep xs bsF) ∧ r = .tuple #[.int .i64 0, .int .i64 10])
set_option maxHeartbeats 4000000 in
theorem check_c {w : World} {v sv : Value} {l : List Nd} {xs : List Int} (hT : TreeM w v l) (hl : l.length ≤ 9223372036854775807) (hS : SlI w sv xs) (hxn : xs.length ≤ 1000) {bsF : List Bool} (hbs : ∀ dep, gameOf l = some dep → RP l dep (rd xs) l.length 0 bsF) :
    Calls Try.prog 48 #[v, sv] w (Ret fun r w' => Below w.heap.size w w' ∧ CheckR l xs bsF r) := by
  obtain ⟨At, ct, rfl⟩ := hT.sl
  obtain ⟨Ax, cx, rfl⟩ := Sl.sl hS
  refine calls_W (vs := [_, _]) Try.func48 rfl (by kernel_rfl) rfl ?_
  (repeat (first | with_reducible refine W.seq ?_ | with_reducible refine Ops.nil ?_ | with_reducible refine W.region ?_ | refine z_p (kk := ?_) | refine z_a (kk := ?_) | refine z_y (kk := ?_) | refine z_n (kk := ?_) | refine z_u (kk := ?_) | with_reducible refine W.skip ?_ | with_reducible refine W.endb ?_ | with_reducible refine W.block ?_ | refine W.exit rfl ?_ | refine z_l (kk := ?_) | refine z_f (kk := ?_) | refine z_M (kk := ?_) | refine z_m (kk := ?_) | refine z_e (kk := ?_) | refine z_E (kk := ?_) | refine z_d (kk := ?_) | refine z_I (kk := fun _ => ?_) | refine z_J (kk := fun _ => ?_) | refine z_K (kk := fun _ => ?_) | refine z_L (kk := fun _ => ?_) | refine z_T (kk := ?_) | refine z_F (kk := ?_) | refine z_k (kk := fun _ _ _ _ _ => ?_) | refine z_w (kk := fun _ _ => ?_) | refine z_s (kk := fun _ _ _ _ => ?_) | refine z_D (kk := ?_) | refine z_g (kk := ?_) | refine z_h (kk := ?_)))
  refine Ops.box rfl rfl rfl rfl (fun w1 b1 hM1 => ?_)
  refine Ops.box rfl rfl rfl rfl (fun w2 b2 hM2 => ?_)
  have k2 := hM1.kp.trans hM2.kp
  have hb2 : Below w.heap.size w w2 := Below.put (Below.refl _ _) k2 (fun i hi => by rcases hi with hi | hi <;> exact hi.elim)
  have hB1 : Blk w2 b1 #[.slice At l.length ct] 22 := Blk.kp hM1.at_ hM2.kp (fun e => e)
  have hB2 : Blk w2 b2 #[.slice Ax xs.length cx] 24 := hM2.at_
  have hT2 := hT.below hb2
  have hS2 := Sl.below hS hb2
  clear hT hS
  (repeat (first | with_reducible refine W.seq ?_ | with_reducible refine Ops.nil ?_ | with_reducible refine W.region ?_ | refine z_p (kk := ?_) | refine z_a (kk := ?_) | refine z_y (kk := ?_) | refine z_n (kk := ?_) | refine z_u (kk := ?_) | with_reducible refine W.skip ?_ | with_reducible refine W.endb ?_ | with_reducible refine W.block ?_ | refine W.exit rfl ?_ | refine z_l (kk := ?_) | refine z_f (kk := ?_) | refine z_M (kk := ?_) | refine z_m (kk := ?_) | refine z_e (kk := ?_) | refine z_E (kk := ?_) | refine z_d (kk := ?_) | refine z_I (kk := fun _ => ?_) | refine z_J (kk := fun _ => ?_) | refine z_K (kk := fun _ => ?_) | refine z_L (kk := fun _ => ?_) | refine z_T (kk := ?_) | refine z_F (kk := ?_) | refine z_k (kk := fun _ _ _ _ _ => ?_) | refine z_w (kk := fun _ _ => ?_) | refine z_s (kk := fun _ _ _ _ => ?_) | refine z_D (kk := ?_) | refine z_g (kk := ?_) | refine z_h (kk := ?_)))
  refine Ops.call rfl rfl rfl rfl rfl (newGame_c hT2 hl) (fun r w3 hR => ?_)
  obtain ⟨hb3, hR⟩ := hR
  have hb03 := Below.via hb2 hb3
  unfold CheckR
  cases hg : gameOf l with
  | none =>
    rw [hg] at hR
    obtain ⟨p, hp1, rfl⟩ := hR
    (repeat (first | with_reducible refine W.seq ?_ | with_reducible refine Ops.nil ?_ | with_reducible refine W.region ?_ | refine z_p (kk := ?_) | refine z_a (kk := ?_) | refine z_y (kk := ?_) | refine z_n (kk := ?_) | refine z_u (kk := ?_) | with_reducible refine W.skip ?_ | with_reducible refine W.endb ?_ | with_reducible refine W.block ?_ | refine W.exit rfl ?_ | refine z_l (kk := ?_) | refine z_f (kk := ?_) | refine z_M (kk := ?_) | refine z_m (kk := ?_) | refine z_e (kk := ?_) | refine z_E (kk := ?_) | refine z_d (kk := ?_) | refine z_I (kk := fun _ => ?_) | refine z_J (kk := fun _ => ?_) | refine z_K (kk := fun _ => ?_) | refine z_L (kk := fun _ => ?_) | refine z_T (kk := ?_) | refine z_F (kk := ?_) | refine z_k (kk := fun _ _ _ _ _ => ?_) | refine z_w (kk := fun _ _ => ?_) | refine z_s (kk := fun _ _ _ _ => ?_) | refine z_D (kk := ?_) | refine z_g (kk := ?_) | refine z_h (kk := ?_)))
    refine Ops.alloc rfl rfl rfl rfl (fun w4 g6 hM3 => ?_)
    refine Ops.st rfl rfl rfl rfl rfl rfl hp1 hM3.at_ (by decide) (fun w5 hu => ?_)
    have k4 := hM3.kp.trans hu.kp
    have hb05 : Below w.heap.size w w5 := Below.put hb03 k4 (fun i hi => by rcases hi with hi | hi; exact hi.elim; have := hM3.r_eq; have := hb03.size; omega)
    (repeat (first | with_reducible refine W.seq ?_ | with_reducible refine Ops.nil ?_ | with_reducible refine W.region ?_ | refine z_p (kk := ?_) | refine z_a (kk := ?_) | refine z_y (kk := ?_) | refine z_n (kk := ?_) | refine z_u (kk := ?_) | with_reducible refine W.skip ?_ | with_reducible refine W.endb ?_ | with_reducible refine W.block ?_ | refine W.exit rfl ?_ | refine z_l (kk := ?_) | refine z_f (kk := ?_) | refine z_M (kk := ?_) | refine z_m (kk := ?_) | refine z_e (kk := ?_) | refine z_E (kk := ?_) | refine z_d (kk := ?_) | refine z_I (kk := fun _ => ?_) | refine z_J (kk := fun _ => ?_) | refine z_K (kk := fun _ => ?_) | refine z_L (kk := fun _ => ?_) | refine z_T (kk := ?_) | refine z_F (kk := ?_) | refine z_k (kk := fun _ _ _ _ _ => ?_) | refine z_w (kk := fun _ _ => ?_) | refine z_s (kk := fun _ _ _ _ => ?_) | refine z_D (kk := ?_) | refine z_g (kk := ?_) | refine z_h (kk := ?_)))
    refine W.condT rfl (by first | rfl | assumption | (simp only [bnf] <;> omega) | (simp only [*, bnf]; done) | fail) ?_
    (repeat (first | with_reducible refine W.seq ?_ | with_reducible refine Ops.nil ?_ | with_reducible refine W.region ?_ | refine z_p (kk := ?_) | refine z_a (kk := ?_) | refine z_y (kk := ?_) | refine z_n (kk := ?_) | refine z_u (kk := ?_) | with_reducible refine W.skip ?_ | with_reducible refine W.endb ?_ | with_reducible refine W.block ?_ | refine W.exit rfl ?_ | refine z_l (kk := ?_) | refine z_f (kk := ?_) | refine z_M (kk := ?_) | refine z_m (kk := ?_) | refine z_e (kk := ?_) | refine z_E (kk := ?_) | refine z_d (kk := ?_) | refine z_I (kk := fun _ => ?_) | refine z_J (kk := fun _ => ?_) | refine z_K (kk := fun _ => ?_) | refine z_L (kk := fun _ => ?_) | refine z_T (kk := ?_) | refine z_F (kk := ?_) | refine z_k (kk := fun _ _ _ _ _ => ?_) | refine z_w (kk := fun _ _ => ?_) | refine z_s (kk := fun _ _ _ _ => ?_) | refine z_D (kk := ?_) | refine z_g (kk := ?_) | refine z_h (kk := ?_)))
    exact W.fret rfl ⟨hb05, rfl⟩
  | some dep =>
    rw [hg] at hR
    obtain ⟨g, rfl, hgs, hG⟩ := hR
    have hTF := gameOf_TF hg
    have hn1 := hTF.n1
    have hn60 := hTF.n60
    have hdl := hTF.len
    (repeat (first | with_reducible refine W.seq ?_ | with_reducible refine Ops.nil ?_ | with_reducible refine W.region ?_ | refine z_p (kk := ?_) | refine z_a (kk := ?_) | refine z_y (kk := ?_) | refine z_n (kk := ?_) | refine z_u (kk := ?_) | with_reducible refine W.skip ?_ | with_reducible refine W.endb ?_ | with_reducible refine W.block ?_ | refine W.exit rfl ?_ | refine z_l (kk := ?_) | refine z_f (kk := ?_) | refine z_M (kk := ?_) | refine z_m (kk := ?_) | refine z_e (kk := ?_) | refine z_E (kk := ?_) | refine z_d (kk := ?_) | refine z_I (kk := fun _ => ?_) | refine z_J (kk := fun _ => ?_) | refine z_K (kk := fun _ => ?_) | refine z_L (kk := fun _ => ?_) | refine z_T (kk := ?_) | refine z_F (kk := ?_) | refine z_k (kk := fun _ _ _ _ _ => ?_) | refine z_w (kk := fun _ _ => ?_) | refine z_s (kk := fun _ _ _ _ => ?_) | refine z_D (kk := ?_) | refine z_g (kk := ?_) | refine z_h (kk := ?_)))
    refine Ops.alloc rfl rfl rfl rfl (fun w4 b6 hM3 => ?_)
    refine Ops.st rfl rfl rfl rfl rfl rfl rfl hM3.at_ (by decide) (fun w5 hu => ?_)
    have k4 := hM3.kp.trans hu.kp
    have hr3 := hM3.r_eq
    have hb35 : Below w3.heap.size w3 w5 := Below.put (Below.refl _ _) k4 (fun i hi => by rcases hi with hi | hi; exact hi.elim; omega)
    have hb25 := Below.via hb3 hb35
    have hb05 := Below.via hb2 hb25
    have hG5 := hG.below hb35
    have hB6 : Blk w5 b6 #[.pointer (some ⟨g, 0, none⟩)] 69 := hu.blk
    have hB15 := hB1.kp (Kp.of_below (S := fun _ => False) hb25) (fun e => e)
    have hB25 := hB2.kp (Kp.of_below (S := fun _ => False) hb25) (fun e => e)
    have hT5 := hT2.below hb25
    have hS5 := Sl.below hS2 hb25
    clear hG hB1 hB2 hT2 hS2 hu hM3 hM1 hM2 k2 k4
    (repeat (first | with_reducible refine W.seq ?_ | with_reducible refine Ops.nil ?_ | with_reducible refine W.region ?_ | refine z_p (kk := ?_) | refine z_a (kk := ?_) | refine z_y (kk := ?_) | refine z_n (kk := ?_) | refine z_u (kk := ?_) | with_reducible refine W.skip ?_ | with_reducible refine W.endb ?_ | with_reducible refine W.block ?_ | refine W.exit rfl ?_ | refine z_l (kk := ?_) | refine z_f (kk := ?_) | refine z_M (kk := ?_) | refine z_m (kk := ?_) | refine z_e (kk := ?_) | refine z_E (kk := ?_) | refine z_d (kk := ?_) | refine z_I (kk := fun _ => ?_) | refine z_J (kk := fun _ => ?_) | refine z_K (kk := fun _ => ?_) | refine z_L (kk := fun _ => ?_) | refine z_T (kk := ?_) | refine z_F (kk := ?_) | refine z_k (kk := fun _ _ _ _ _ => ?_) | refine z_w (kk := fun _ _ => ?_) | refine z_s (kk := fun _ _ _ _ => ?_) | refine z_D (kk := ?_) | refine z_g (kk := ?_) | refine z_h (kk := ?_)))
    refine W.condF rfl (by first | rfl | assumption | (simp only [bnf] <;> omega) | (simp only [*, bnf]; done) | fail) ?_
    (repeat (first | with_reducible refine W.seq ?_ | with_reducible refine Ops.nil ?_ | with_reducible refine W.region ?_ | refine z_p (kk := ?_) | refine z_a (kk := ?_) | refine z_y (kk := ?_) | refine z_n (kk := ?_) | refine z_u (kk := ?_) | with_reducible refine W.skip ?_ | with_reducible refine W.endb ?_ | with_reducible refine W.block ?_ | refine W.exit rfl ?_ | refine z_l (kk := ?_) | refine z_f (kk := ?_) | refine z_M (kk := ?_) | refine z_m (kk := ?_) | refine z_e (kk := ?_) | refine z_E (kk := ?_) | refine z_d (kk := ?_) | refine z_I (kk := fun _ => ?_) | refine z_J (kk := fun _ => ?_) | refine z_K (kk := fun _ => ?_) | refine z_L (kk := fun _ => ?_) | refine z_T (kk := ?_) | refine z_F (kk := ?_) | refine z_k (kk := fun _ _ _ _ _ => ?_) | refine z_w (kk := fun _ _ => ?_) | refine z_s (kk := fun _ _ _ _ => ?_) | refine z_D (kk := ?_) | refine z_g (kk := ?_) | refine z_h (kk := ?_)))
    by_cases hxl : xs.length = l.length
    · refine W.condF rfl (by first | rfl | assumption | (simp only [bnf] <;> omega) | (simp only [*, bnf]; done) | fail) ?_
      (repeat (first | with_reducible refine W.seq ?_ | with_reducible refine Ops.nil ?_ | with_reducible refine W.region ?_ | refine z_p (kk := ?_) | refine z_a (kk := ?_) | refine z_y (kk := ?_) | refine z_n (kk := ?_) | refine z_u (kk := ?_) | with_reducible refine W.skip ?_ | with_reducible refine W.endb ?_ | with_reducible refine W.block ?_ | refine W.exit rfl ?_ | refine z_l (kk := ?_) | refine z_f (kk := ?_) | refine z_M (kk := ?_) | refine z_m (kk := ?_) | refine z_e (kk := ?_) | refine z_E (kk := ?_) | refine z_d (kk := ?_) | refine z_I (kk := fun _ => ?_) | refine z_J (kk := fun _ => ?_) | refine z_K (kk := fun _ => ?_) | refine z_L (kk := fun _ => ?_) | refine z_T (kk := ?_) | refine z_F (kk := ?_) | refine z_k (kk := fun _ _ _ _ _ => ?_) | refine z_w (kk := fun _ _ => ?_) | refine z_s (kk := fun _ _ _ _ => ?_) | refine z_D (kk := ?_) | refine z_g (kk := ?_) | refine z_h (kk := ?_)))
      refine Ops.alloc rfl rfl rfl rfl (fun w6 b8 hM8 => ?_)
      refine Ops.st rfl rfl rfl rfl rfl rfl rfl hM8.at_ (by decide) (fun w7 hu8 => ?_)
      have k8 := hM8.kp.trans hu8.kp
      have hr8 := hM8.r_eq
      have hsz7 : b8 < w7.heap.size := by have := hM8.size; have := hu8.kp.size; omega
      have hb57 : Below w5.heap.size w5 w7 := Below.put (Below.refl _ _) k8 (fun i hi => by rcases hi with hi | hi; exact hi.elim; omega)
      have hB8 : Blk w7 b8 #[.bool true] 4 := hu8.blk
      (repeat (first | with_reducible refine W.seq ?_ | with_reducible refine Ops.nil ?_ | with_reducible refine W.region ?_ | refine z_p (kk := ?_) | refine z_a (kk := ?_) | refine z_y (kk := ?_) | refine z_n (kk := ?_) | refine z_u (kk := ?_) | with_reducible refine W.skip ?_ | with_reducible refine W.endb ?_ | with_reducible refine W.block ?_ | refine W.exit rfl ?_ | refine z_l (kk := ?_) | refine z_f (kk := ?_) | refine z_M (kk := ?_) | refine z_m (kk := ?_) | refine z_e (kk := ?_) | refine z_E (kk := ?_) | refine z_d (kk := ?_) | refine z_I (kk := fun _ => ?_) | refine z_J (kk := fun _ => ?_) | refine z_K (kk := fun _ => ?_) | refine z_L (kk := fun _ => ?_) | refine z_T (kk := ?_) | refine z_F (kk := ?_) | refine z_k (kk := fun _ _ _ _ _ => ?_) | refine z_w (kk := fun _ _ => ?_) | refine z_s (kk := fun _ _ _ _ => ?_) | refine z_D (kk := ?_) | refine z_g (kk := ?_) | refine z_h (kk := ?_)))
      have hbsF := hbs dep hg
      refine Ops.call rfl rfl rfl rfl rfl (plan_c (wB := w5) (first := []) (cap := [.pointer (some ⟨b1, 0, none⟩), .pointer (some ⟨b2, 0, none⟩), .pointer (some ⟨b8, 0, none⟩)]) (fi := 81) (ch := chk l xs) (S := fun k => k = b8) (J := fun t w' => Blk w' b8 #[.bool (t.all fun i => decide (rd xs i ∈ kid l i))] 4) hG5 hb57 hTF rfl (fun i hi hlf => chk_mem hlf)
        (fun t i w' hi hlf hev hb' hJ => ?_) (fun i h => ⟨by omega, by omega⟩) (fun t wa wb T hJ hk hT => hJ.kp hk (fun e => by have := hT _ e; omega)) hB8) (fun r w8 hR => ?_)
      · refine (check1_c hTF hB15 hT5 hB25 hS5 hxl hb' (by omega) hJ i hi hlf).mono ?_
        rintro e w'' ⟨v, he, hv, hb'', hk, hB⟩
        exact ⟨v, he, hv, hb'', by rw [List.all_append]; simpa using hB, hk⟩
      obtain ⟨f, out, hP, hO, hB8'⟩ := hR
      have hb58 := hO.bel
      have hb08 := Below.via hb05 hb58
      have ho8 : SlI w8 r out := hO.sl
      have hol := hP.len
      obtain ⟨Ao, co, rfl⟩ := Sl.sl ho8
      generalize hq : (asked l dep f l.length).all (fun i => decide (rd xs i ∈ kid l i)) = q at *
      (repeat (first | with_reducible refine W.seq ?_ | with_reducible refine Ops.nil ?_ | with_reducible refine W.region ?_ | refine z_p (kk := ?_) | refine z_a (kk := ?_) | refine z_y (kk := ?_) | refine z_n (kk := ?_) | refine z_u (kk := ?_) | with_reducible refine W.skip ?_ | with_reducible refine W.endb ?_ | with_reducible refine W.block ?_ | refine W.exit rfl ?_ | refine z_l (kk := ?_) | refine z_f (kk := ?_) | refine z_M (kk := ?_) | refine z_m (kk := ?_) | refine z_e (kk := ?_) | refine z_E (kk := ?_) | refine z_d (kk := ?_) | refine z_I (kk := fun _ => ?_) | refine z_J (kk := fun _ => ?_) | refine z_K (kk := fun _ => ?_) | refine z_L (kk := fun _ => ?_) | refine z_T (kk := ?_) | refine z_F (kk := ?_) | refine z_k (kk := fun _ _ _ _ _ => ?_) | refine z_w (kk := fun _ _ => ?_) | refine z_s (kk := fun _ _ _ _ => ?_) | refine z_D (kk := ?_) | refine z_g (kk := ?_) | refine z_h (kk := ?_)))
      refine Ops.cut (fun ρ w' => ρ = [(2, .pointer (some ⟨b1, 0, none⟩)), (3, .pointer (some ⟨b2, 0, none⟩)), (6, .pointer (some ⟨b6, 0, none⟩)), (39, .bool (!(q && decide (out = xs))))] ∧ Below w8.heap.size w8 w') ?_ ?_
      · cases q with
        | false =>
          (repeat (first | with_reducible refine W.seq ?_ | with_reducible refine Ops.nil ?_ | with_reducible refine W.region ?_ | refine z_p (kk := ?_) | refine z_a (kk := ?_) | refine z_y (kk := ?_) | refine z_n (kk := ?_) | refine z_u (kk := ?_) | with_reducible refine W.skip ?_ | with_reducible refine W.endb ?_ | with_reducible refine W.block ?_ | refine W.exit rfl ?_ | refine z_l (kk := ?_) | refine z_f (kk := ?_) | refine z_M (kk := ?_) | refine z_m (kk := ?_) | refine z_e (kk := ?_) | refine z_E (kk := ?_) | refine z_d (kk := ?_) | refine z_I (kk := fun _ => ?_) | refine z_J (kk := fun _ => ?_) | refine z_K (kk := fun _ => ?_) | refine z_L (kk := fun _ => ?_) | refine z_T (kk := ?_) | refine z_F (kk := ?_) | refine z_k (kk := fun _ _ _ _ _ => ?_) | refine z_w (kk := fun _ _ => ?_) | refine z_s (kk := fun _ _ _ _ => ?_) | refine z_D (kk := ?_) | refine z_g (kk := ?_) | refine z_h (kk := ?_)))
          exact W.endl ⟨_, ⟨rfl, Below.refl _ _⟩, (by repeat (first | exact trivial | refine And.intro rfl ?_))⟩
        | true =>
          (repeat (first | with_reducible refine W.seq ?_ | with_reducible refine Ops.nil ?_ | with_reducible refine W.region ?_ | refine z_p (kk := ?_) | refine z_a (kk := ?_) | refine z_y (kk := ?_) | refine z_n (kk := ?_) | refine z_u (kk := ?_) | with_reducible refine W.skip ?_ | with_reducible refine W.endb ?_ | with_reducible refine W.block ?_ | refine W.exit rfl ?_ | refine z_l (kk := ?_) | refine z_f (kk := ?_) | refine z_M (kk := ?_) | refine z_m (kk := ?_) | refine z_e (kk := ?_) | refine z_E (kk := ?_) | refine z_d (kk := ?_) | refine z_I (kk := fun _ => ?_) | refine z_J (kk := fun _ => ?_) | refine z_K (kk := fun _ => ?_) | refine z_L (kk := fun _ => ?_) | refine z_T (kk := ?_) | refine z_F (kk := ?_) | refine z_k (kk := fun _ _ _ _ _ => ?_) | refine z_w (kk := fun _ _ => ?_) | refine z_s (kk := fun _ _ _ _ => ?_) | refine z_D (kk := ?_) | refine z_g (kk := ?_) | refine z_h (kk := ?_)))
          refine Ops.call rfl rfl rfl rfl rfl (equal_c ho8 (Sl.below hS5 hb58) (by omega) (by omega)) (fun r w9 hR => ?_)
          obtain ⟨rfl, hb9⟩ := hR
          (repeat (first | with_reducible refine W.seq ?_ | with_reducible refine Ops.nil ?_ | with_reducible refine W.region ?_ | refine z_p (kk := ?_) | refine z_a (kk := ?_) | refine z_y (kk := ?_) | refine z_n (kk := ?_) | refine z_u (kk := ?_) | with_reducible refine W.skip ?_ | with_reducible refine W.endb ?_ | with_reducible refine W.block ?_ | refine W.exit rfl ?_ | refine z_l (kk := ?_) | refine z_f (kk := ?_) | refine z_M (kk := ?_) | refine z_m (kk := ?_) | refine z_e (kk := ?_) | refine z_E (kk := ?_) | refine z_d (kk := ?_) | refine z_I (kk := fun _ => ?_) | refine z_J (kk := fun _ => ?_) | refine z_K (kk := fun _ => ?_) | refine z_L (kk := fun _ => ?_) | refine z_T (kk := ?_) | refine z_F (kk := ?_) | refine z_k (kk := fun _ _ _ _ _ => ?_) | refine z_w (kk := fun _ _ => ?_) | refine z_s (kk := fun _ _ _ _ => ?_) | refine z_D (kk := ?_) | refine z_g (kk := ?_) | refine z_h (kk := ?_)))
          refine W.endl ⟨_, ⟨rfl, hb9⟩, ?_⟩
          rw [Bool.true_and]
          exact (by repeat (first | exact trivial | refine And.intro rfl ?_))
      rintro ρ w9 ⟨rfl, hb89⟩
      have hb59 := Below.via hb58 hb89
      have hb09 := Below.via hb05 hb59
      by_cases hgo : q = true ∧ out = xs
      · obtain ⟨rfl, rfl⟩ := hgo
        rw [decide_eq_true rfl]
        have hok : OkP l dep out bsF := ok_of_plan hTF hbsF hP (fun i hi h1 h2 h3 => of_decide_eq_true (asked_all.1 hq i hi h1 h2 h3))
        refine W.condF rfl rfl ?_
        (repeat (first | with_reducible refine W.seq ?_ | with_reducible refine Ops.nil ?_ | with_reducible refine W.region ?_ | refine z_p (kk := ?_) | refine z_a (kk := ?_) | refine z_y (kk := ?_) | refine z_n (kk := ?_) | refine z_u (kk := ?_) | with_reducible refine W.skip ?_ | with_reducible refine W.endb ?_ | with_reducible refine W.block ?_ | refine W.exit rfl ?_ | refine z_l (kk := ?_) | refine z_f (kk := ?_) | refine z_M (kk := ?_) | refine z_m (kk := ?_) | refine z_e (kk := ?_) | refine z_E (kk := ?_) | refine z_d (kk := ?_) | refine z_I (kk := fun _ => ?_) | refine z_J (kk := fun _ => ?_) | refine z_K (kk := fun _ => ?_) | refine z_L (kk := fun _ => ?_) | refine z_T (kk := ?_) | refine z_F (kk := ?_) | refine z_k (kk := fun _ _ _ _ _ => ?_) | refine z_w (kk := fun _ _ => ?_) | refine z_s (kk := fun _ _ _ _ => ?_) | refine z_D (kk := ?_) | refine z_g (kk := ?_) | refine z_h (kk := ?_)))
        clear hO hB8' hB8 ho8 hP hq
        refine Ops.mkM rfl rfl rfl (fun wa mb hma ka hmb => ?_)
        refine Ops.ins rfl rfl rfl rfl rfl rfl rfl rfl hma (fun wb' hmb' kb hzb => ?_)
        have hm4 : MapB wb' mb (fun k => k == 0) := by simpa using hmb'
        have hb9b : Below w9.heap.size w9 wb' := Below.put (Below.put (Below.refl _ _) ka (fun _ e => e.elim)) kb (fun i hi => by omega)
        (repeat (first | with_reducible refine W.seq ?_ | with_reducible refine Ops.nil ?_ | with_reducible refine W.region ?_ | refine z_p (kk := ?_) | refine z_a (kk := ?_) | refine z_y (kk := ?_) | refine z_n (kk := ?_) | refine z_u (kk := ?_) | with_reducible refine W.skip ?_ | with_reducible refine W.endb ?_ | with_reducible refine W.block ?_ | refine W.exit rfl ?_ | refine z_l (kk := ?_) | refine z_f (kk := ?_) | refine z_M (kk := ?_) | refine z_m (kk := ?_) | refine z_e (kk := ?_) | refine z_E (kk := ?_) | refine z_d (kk := ?_) | refine z_I (kk := fun _ => ?_) | refine z_J (kk := fun _ => ?_) | refine z_K (kk := fun _ => ?_) | refine z_L (kk := fun _ => ?_) | refine z_T (kk := ?_) | refine z_F (kk := ?_) | refine z_k (kk := fun _ _ _ _ _ => ?_) | refine z_w (kk := fun _ _ => ?_) | refine z_s (kk := fun _ _ _ _ => ?_) | refine z_D (kk := ?_) | refine z_g (kk := ?_) | refine z_h (kk := ?_)))
        refine Ops.alloc rfl rfl rfl rfl (fun wc b10 hMc => ?_)
        refine Ops.st rfl rfl rfl rfl rfl rfl rfl hMc.at_ (by decide) (fun wd hud => ?_)
        have kd := hMc.kp.trans hud.kp
        have hr10 := hMc.r_eq
        have hb9d : Below w9.heap.size w9 wd := Below.put hb9b kd (fun i hi => by rcases hi with hi | hi; exact hi.elim; have := hb9b.size; omega)
        have hmd := hm4.kp kd (fun hi => by rcases hi with hi | hi; exact hi.elim; have := hm4.lt; omega)
        have hB10 : Blk wd b10 #[.map (some mb)] 79 := hud.blk
        have hne10 : mb ≠ b10 := by have := hm4.lt; omega
        have hb5d := Below.via hb59 hb9d
        have hmb5 : w5.heap.size ≤ mb := by have := hb59.size; omega
        have hb105 : w5.heap.size ≤ b10 := by have := hb5d.size; have := hb59.size; have := hb9b.size; omega
        have hP0 := PI.start l dep (rd out)
        clear hmb' hm4 hma hMc hud
        (repeat (first | with_reducible refine W.seq ?_ | with_reducible refine Ops.nil ?_ | with_reducible refine W.region ?_ | refine z_p (kk := ?_) | refine z_a (kk := ?_) | refine z_y (kk := ?_) | refine z_n (kk := ?_) | refine z_u (kk := ?_) | with_reducible refine W.skip ?_ | with_reducible refine W.endb ?_ | with_reducible refine W.block ?_ | refine W.exit rfl ?_ | refine z_l (kk := ?_) | refine z_f (kk := ?_) | refine z_M (kk := ?_) | refine z_m (kk := ?_) | refine z_e (kk := ?_) | refine z_E (kk := ?_) | refine z_d (kk := ?_) | refine z_I (kk := fun _ => ?_) | refine z_J (kk := fun _ => ?_) | refine z_K (kk := fun _ => ?_) | refine z_L (kk := fun _ => ?_) | refine z_T (kk := ?_) | refine z_F (kk := ?_) | refine z_k (kk := fun _ _ _ _ _ => ?_) | refine z_w (kk := fun _ _ => ?_) | refine z_s (kk := fun _ _ _ _ => ?_) | refine z_D (kk := ?_) | refine z_g (kk := ?_) | refine z_h (kk := ?_)))
        refine W.loop (fun m ρ w' => ∃ (i : Nat) (f : Int → Bool) (gh : List Int), m = l.length - i ∧ i ≤ l.length ∧ ρ = [(3, .pointer (some ⟨b2, 0, none⟩)), (6, .pointer (some ⟨b6, 0, none⟩)), (10, .pointer (some ⟨b10, 0, none⟩)), (42, .slice At l.length ct), (43, .int .i64 l.length), (44, .int .i64 i)] ∧ Below w5.heap.size w5 w' ∧ Blk w' b10 #[.map (some mb)] 79 ∧ MapB w' mb f ∧ PI l dep (rd out) i f gh)
          ⟨_, _, ⟨0, _, _, rfl, Nat.zero_le _, rfl, hb5d, hB10, hmd, hP0⟩, (by repeat (first | exact trivial | refine And.intro rfl ?_))⟩ ?_
        clear hB10 hmd hP0 hb5d hb9d
        rintro m ρ w10 ⟨i, f2, gh, rfl, hi, rfl, hb10, hB10, hM, hP2⟩
        (repeat (first | with_reducible refine W.seq ?_ | with_reducible refine Ops.nil ?_ | with_reducible refine W.region ?_ | refine z_p (kk := ?_) | refine z_a (kk := ?_) | refine z_y (kk := ?_) | refine z_n (kk := ?_) | refine z_u (kk := ?_) | with_reducible refine W.skip ?_ | with_reducible refine W.endb ?_ | with_reducible refine W.block ?_ | refine W.exit rfl ?_ | refine z_l (kk := ?_) | refine z_f (kk := ?_) | refine z_M (kk := ?_) | refine z_m (kk := ?_) | refine z_e (kk := ?_) | refine z_E (kk := ?_) | refine z_d (kk := ?_) | refine z_I (kk := fun _ => ?_) | refine z_J (kk := fun _ => ?_) | refine z_K (kk := fun _ => ?_) | refine z_L (kk := fun _ => ?_) | refine z_T (kk := ?_) | refine z_F (kk := ?_) | refine z_k (kk := fun _ _ _ _ _ => ?_) | refine z_w (kk := fun _ _ => ?_) | refine z_s (kk := fun _ _ _ _ => ?_) | refine z_D (kk := ?_) | refine z_g (kk := ?_) | refine z_h (kk := ?_)))
        (first | refine W.condD rfl (fun hc => ?_) (fun hc => ?_) | refine W.condE rfl (fun hc => ?_) (fun hc => ?_) | refine W.condN rfl (fun hc => ?_) (fun hc => ?_) | refine W.cond rfl (fun hc => ?_) (fun hc => ?_))
        · have hil : i < l.length := by omega
          (repeat (first | with_reducible refine W.seq ?_ | with_reducible refine Ops.nil ?_ | with_reducible refine W.region ?_ | refine z_p (kk := ?_) | refine z_a (kk := ?_) | refine z_y (kk := ?_) | refine z_n (kk := ?_) | refine z_u (kk := ?_) | with_reducible refine W.skip ?_ | with_reducible refine W.endb ?_ | with_reducible refine W.block ?_ | refine W.exit rfl ?_ | refine z_l (kk := ?_) | refine z_f (kk := ?_) | refine z_M (kk := ?_) | refine z_m (kk := ?_) | refine z_e (kk := ?_) | refine z_E (kk := ?_) | refine z_d (kk := ?_) | refine z_I (kk := fun _ => ?_) | refine z_J (kk := fun _ => ?_) | refine z_K (kk := fun _ => ?_) | refine z_L (kk := fun _ => ?_) | refine z_T (kk := ?_) | refine z_F (kk := ?_) | refine z_g (kk := ?_) | refine z_h (kk := ?_)))
          refine Ops.rdNB rfl rfl rfl rfl rfl rfl (fun _ => rfl) rfl rfl rfl rfl rfl rfl rfl hT5 hb10 (by omega) (by omega) (fun Ak ck _ hks => ?_)
          refine Ops.alloc rfl rfl rfl rfl (fun w11 b12 hM6 => ?_)
          (repeat (first | with_reducible refine W.seq ?_ | with_reducible refine Ops.nil ?_ | with_reducible refine W.region ?_ | refine z_p (kk := ?_) | refine z_a (kk := ?_) | refine z_y (kk := ?_) | refine z_n (kk := ?_) | refine z_u (kk := ?_) | with_reducible refine W.skip ?_ | with_reducible refine W.endb ?_ | with_reducible refine W.block ?_ | refine W.exit rfl ?_ | refine z_l (kk := ?_) | refine z_f (kk := ?_) | refine z_M (kk := ?_) | refine z_m (kk := ?_) | refine z_e (kk := ?_) | refine z_E (kk := ?_) | refine z_d (kk := ?_) | refine z_I (kk := fun _ => ?_) | refine z_J (kk := fun _ => ?_) | refine z_K (kk := fun _ => ?_) | refine z_L (kk := fun _ => ?_) | refine z_T (kk := ?_) | refine z_F (kk := ?_) | refine z_k (kk := fun _ _ _ _ _ => ?_) | refine z_w (kk := fun _ _ => ?_) | refine z_s (kk := fun _ _ _ _ => ?_) | refine z_D (kk := ?_) | refine z_g (kk := ?_) | refine z_h (kk := ?_)))
          refine Ops.st2 rfl rfl rfl rfl rfl rfl rfl rfl hM6.at_ (fun w12 hu7 => ?_)
          have k7 := hM6.kp.trans hu7.kp
          have e6 := hM6.r_eq
          have hB12 := hu7.blk
          have hb12 : Below w5.heap.size w5 w12 := Below.put hb10 k7 (fun j hj => by rcases hj with hj | hj; exact hj.elim; have := hb10.size; omega)
          have hM12 := hM.kp k7 (fun hj => by rcases hj with hj | hj; exact hj.elim; have := hM.lt; omega)
          have hB1012 := hB10.kp k7 (fun hj => by rcases hj with hj | hj; exact hj.elim; have := hB10.lt; omega)
          have hG12 := hG5.below hb12
          have hsame := PI.same hTF hP2 hbsF i (Nat.le_refl _) hil
          clear hM hB10
          (repeat (first | with_reducible refine W.seq ?_ | with_reducible refine Ops.nil ?_ | with_reducible refine W.region ?_ | refine z_p (kk := ?_) | refine z_a (kk := ?_) | refine z_y (kk := ?_) | refine z_n (kk := ?_) | refine z_u (kk := ?_) | with_reducible refine W.skip ?_ | with_reducible refine W.endb ?_ | with_reducible refine W.block ?_ | refine W.exit rfl ?_ | refine z_l (kk := ?_) | refine z_f (kk := ?_) | refine z_M (kk := ?_) | refine z_m (kk := ?_) | refine z_e (kk := ?_) | refine z_E (kk := ?_) | refine z_d (kk := ?_) | refine z_I (kk := fun _ => ?_) | refine z_J (kk := fun _ => ?_) | refine z_K (kk := fun _ => ?_) | refine z_L (kk := fun _ => ?_) | refine z_T (kk := ?_) | refine z_F (kk := ?_) | refine z_k (kk := fun _ _ _ _ _ => ?_) | refine z_w (kk := fun _ _ => ?_) | refine z_s (kk := fun _ _ _ _ => ?_) | refine z_D (kk := ?_) | refine z_g (kk := ?_) | refine z_h (kk := ?_)))
          refine Ops.look rfl rfl rfl rfl rfl rfl rfl rfl hM12 ?_
          cases hfi : f2 i with
          | false =>
            (repeat (first | with_reducible refine W.seq ?_ | with_reducible refine Ops.nil ?_ | with_reducible refine W.region ?_ | refine z_p (kk := ?_) | refine z_a (kk := ?_) | refine z_y (kk := ?_) | refine z_n (kk := ?_) | refine z_u (kk := ?_) | with_reducible refine W.skip ?_ | with_reducible refine W.endb ?_ | with_reducible refine W.block ?_ | refine W.exit rfl ?_ | refine z_l (kk := ?_) | refine z_f (kk := ?_) | refine z_M (kk := ?_) | refine z_m (kk := ?_) | refine z_e (kk := ?_) | refine z_E (kk := ?_) | refine z_d (kk := ?_) | refine z_I (kk := fun _ => ?_) | refine z_J (kk := fun _ => ?_) | refine z_K (kk := fun _ => ?_) | refine z_L (kk := fun _ => ?_) | refine z_T (kk := ?_) | refine z_F (kk := ?_) | refine z_k (kk := fun _ _ _ _ _ => ?_) | refine z_w (kk := fun _ _ => ?_) | refine z_s (kk := fun _ _ _ _ => ?_) | refine z_D (kk := ?_) | refine z_g (kk := ?_) | refine z_h (kk := ?_)))
            refine W.condT rfl (by first | rfl | assumption | (simp only [bnf] <;> omega) | (simp only [*, bnf]; done) | fail) ?_
            (repeat (first | with_reducible refine W.seq ?_ | with_reducible refine Ops.nil ?_ | with_reducible refine W.region ?_ | refine z_p (kk := ?_) | refine z_a (kk := ?_) | refine z_y (kk := ?_) | refine z_n (kk := ?_) | refine z_u (kk := ?_) | with_reducible refine W.skip ?_ | with_reducible refine W.endb ?_ | with_reducible refine W.block ?_ | refine W.exit rfl ?_ | refine z_l (kk := ?_) | refine z_f (kk := ?_) | refine z_M (kk := ?_) | refine z_m (kk := ?_) | refine z_e (kk := ?_) | refine z_E (kk := ?_) | refine z_d (kk := ?_) | refine z_I (kk := fun _ => ?_) | refine z_J (kk := fun _ => ?_) | refine z_K (kk := fun _ => ?_) | refine z_L (kk := fun _ => ?_) | refine z_T (kk := ?_) | refine z_F (kk := ?_) | refine z_k (kk := fun _ _ _ _ _ => ?_) | refine z_w (kk := fun _ _ => ?_) | refine z_s (kk := fun _ _ _ _ => ?_) | refine z_D (kk := ?_) | refine z_g (kk := ?_) | refine z_h (kk := ?_)))
            exact W.endl ⟨_, _, ⟨⟨i + 1, f2, gh, rfl, by omega, rfl, hb12, hB1012, hM12, hP2.skip hTF hil (.inl hfi)⟩, by omega⟩, (by repeat (first | exact trivial | refine And.intro rfl ?_))⟩
          | true =>
            (repeat (first | with_reducible refine W.seq ?_ | with_reducible refine Ops.nil ?_ | with_reducible refine W.region ?_ | refine z_p (kk := ?_) | refine z_a (kk := ?_) | refine z_y (kk := ?_) | refine z_n (kk := ?_) | refine z_u (kk := ?_) | with_reducible refine W.skip ?_ | with_reducible refine W.endb ?_ | with_reducible refine W.block ?_ | refine W.exit rfl ?_ | refine z_l (kk := ?_) | refine z_f (kk := ?_) | refine z_M (kk := ?_) | refine z_m (kk := ?_) | refine z_e (kk := ?_) | refine z_E (kk := ?_) | refine z_d (kk := ?_) | refine z_I (kk := fun _ => ?_) | refine z_J (kk := fun _ => ?_) | refine z_K (kk := fun _ => ?_) | refine z_L (kk := fun _ => ?_) | refine z_T (kk := ?_) | refine z_F (kk := ?_) | refine z_k (kk := fun _ _ _ _ _ => ?_) | refine z_w (kk := fun _ _ => ?_) | refine z_s (kk := fun _ _ _ _ => ?_) | refine z_D (kk := ?_) | refine z_g (kk := ?_) | refine z_h (kk := ?_)))
            refine W.condF rfl (by first | rfl | assumption | (simp only [bnf] <;> omega) | (simp only [*, bnf]; done) | fail) ?_
            (repeat (first | with_reducible refine W.seq ?_ | with_reducible refine Ops.nil ?_ | with_reducible refine W.region ?_ | refine z_p (kk := ?_) | refine z_a (kk := ?_) | refine z_y (kk := ?_) | refine z_n (kk := ?_) | refine z_u (kk := ?_) | with_reducible refine W.skip ?_ | with_reducible refine W.endb ?_ | with_reducible refine W.block ?_ | refine W.exit rfl ?_ | refine z_l (kk := ?_) | refine z_f (kk := ?_) | refine z_M (kk := ?_) | refine z_m (kk := ?_) | refine z_e (kk := ?_) | refine z_E (kk := ?_) | refine z_d (kk := ?_) | refine z_I (kk := fun _ => ?_) | refine z_J (kk := fun _ => ?_) | refine z_K (kk := fun _ => ?_) | refine z_L (kk := fun _ => ?_) | refine z_T (kk := ?_) | refine z_F (kk := ?_) | refine z_k (kk := fun _ _ _ _ _ => ?_) | refine z_w (kk := fun _ _ => ?_) | refine z_s (kk := fun _ _ _ _ => ?_) | refine z_D (kk := ?_) | refine z_g (kk := ?_) | refine z_h (kk := ?_)))
            refine Ops.cut (fun ρ w' => ρ = [(3, .pointer (some ⟨b2, 0, none⟩)), (6, .pointer (some ⟨b6, 0, none⟩)), (10, .pointer (some ⟨b10, 0, none⟩)), (42, .slice At l.length ct), (43, .int .i64 l.length), (44, .int .i64 i), (11, .int .i64 i), (12, .pointer (some ⟨b12, 0, none⟩)), (64, .bool (evB dep i && !leafB l i))] ∧ w' = w12) ?_ ?_
            · refine Ops.callS rfl rfl rfl rfl rfl (atMax_c hG12 i (by omega) (by omega)) ?_
              cases hev : evB dep i with
              | false =>
                (repeat (first | with_reducible refine W.seq ?_ | with_reducible refine Ops.nil ?_ | with_reducible refine W.region ?_ | refine z_p (kk := ?_) | refine z_a (kk := ?_) | refine z_y (kk := ?_) | refine z_n (kk := ?_) | refine z_u (kk := ?_) | with_reducible refine W.skip ?_ | with_reducible refine W.endb ?_ | with_reducible refine W.block ?_ | refine W.exit rfl ?_ | refine z_l (kk := ?_) | refine z_f (kk := ?_) | refine z_M (kk := ?_) | refine z_m (kk := ?_) | refine z_e (kk := ?_) | refine z_E (kk := ?_) | refine z_d (kk := ?_) | refine z_I (kk := fun _ => ?_) | refine z_J (kk := fun _ => ?_) | refine z_K (kk := fun _ => ?_) | refine z_L (kk := fun _ => ?_) | refine z_T (kk := ?_) | refine z_F (kk := ?_) | refine z_k (kk := fun _ _ _ _ _ => ?_) | refine z_w (kk := fun _ _ => ?_) | refine z_s (kk := fun _ _ _ _ => ?_) | refine z_D (kk := ?_) | refine z_g (kk := ?_) | refine z_h (kk := ?_)))
                exact W.endl ⟨_, ⟨rfl, rfl⟩, (by repeat (first | exact trivial | refine And.intro rfl ?_))⟩
              | true =>
                (repeat (first | with_reducible refine W.seq ?_ | with_reducible refine Ops.nil ?_ | with_reducible refine W.region ?_ | refine z_p (kk := ?_) | refine z_a (kk := ?_) | refine z_y (kk := ?_) | refine z_n (kk := ?_) | refine z_u (kk := ?_) | with_reducible refine W.skip ?_ | with_reducible refine W.endb ?_ | with_reducible refine W.block ?_ | refine W.exit rfl ?_ | refine z_l (kk := ?_) | refine z_f (kk := ?_) | refine z_M (kk := ?_) | refine z_m (kk := ?_) | refine z_e (kk := ?_) | refine z_E (kk := ?_) | refine z_d (kk := ?_) | refine z_I (kk := fun _ => ?_) | refine z_J (kk := fun _ => ?_) | refine z_K (kk := fun _ => ?_) | refine z_L (kk := fun _ => ?_) | refine z_T (kk := ?_) | refine z_F (kk := ?_) | refine z_k (kk := fun _ _ _ _ _ => ?_) | refine z_w (kk := fun _ _ => ?_) | refine z_s (kk := fun _ _ _ _ => ?_) | refine z_D (kk := ?_) | refine z_g (kk := ?_) | refine z_h (kk := ?_)))
                refine Ops.callS rfl rfl rfl rfl rfl (isLeaf_c hG12 i (by omega) (by omega)) ?_
                cases hlf : leafB l i <;>
                · (repeat (first | with_reducible refine W.seq ?_ | with_reducible refine Ops.nil ?_ | with_reducible refine W.region ?_ | refine z_p (kk := ?_) | refine z_a (kk := ?_) | refine z_y (kk := ?_) | refine z_n (kk := ?_) | refine z_u (kk := ?_) | with_reducible refine W.skip ?_ | with_reducible refine W.endb ?_ | with_reducible refine W.block ?_ | refine W.exit rfl ?_ | refine z_l (kk := ?_) | refine z_f (kk := ?_) | refine z_M (kk := ?_) | refine z_m (kk := ?_) | refine z_e (kk := ?_) | refine z_E (kk := ?_) | refine z_d (kk := ?_) | refine z_I (kk := fun _ => ?_) | refine z_J (kk := fun _ => ?_) | refine z_K (kk := fun _ => ?_) | refine z_L (kk := fun _ => ?_) | refine z_T (kk := ?_) | refine z_F (kk := ?_) | refine z_k (kk := fun _ _ _ _ _ => ?_) | refine z_w (kk := fun _ _ => ?_) | refine z_s (kk := fun _ _ _ _ => ?_) | refine z_D (kk := ?_) | refine z_g (kk := ?_) | refine z_h (kk := ?_)))
                  exact W.endl ⟨_, ⟨rfl, rfl⟩, (by repeat (first | exact trivial | refine And.intro rfl ?_))⟩
            rintro ρ w13 ⟨rfl, rfl⟩
            cases hgo : (evB dep i && !leafB l i) with
            | true =>
              simp only [Bool.and_eq_true, Bool.not_eq_true'] at hgo
              have hmem : rd out i ∈ kid l i := by
                have := hok i hil
                unfold okN at this
                rw [← hsame, hfi, hgo.1, hgo.2, if_pos (by rfl)] at this
                exact of_decide_eq_true this
              have hP' := hP2.max hTF hil hfi hgo.2 hgo.1 hmem
              have hrx : rd out i = out.getD i 0 := rfl
              rw [hrx] at hP'
              refine W.condT rfl rfl ?_
              (repeat (first | with_reducible refine W.seq ?_ | with_reducible refine Ops.nil ?_ | with_reducible refine W.region ?_ | refine z_p (kk := ?_) | refine z_a (kk := ?_) | refine z_y (kk := ?_) | refine z_n (kk := ?_) | refine z_u (kk := ?_) | with_reducible refine W.skip ?_ | with_reducible refine W.endb ?_ | with_reducible refine W.block ?_ | refine W.exit rfl ?_ | refine z_l (kk := ?_) | refine z_f (kk := ?_) | refine z_M (kk := ?_) | refine z_m (kk := ?_) | refine z_e (kk := ?_) | refine z_E (kk := ?_) | refine z_d (kk := ?_) | refine z_I (kk := fun _ => ?_) | refine z_J (kk := fun _ => ?_) | refine z_K (kk := fun _ => ?_) | refine z_L (kk := fun _ => ?_) | refine z_T (kk := ?_) | refine z_F (kk := ?_) | refine z_k (kk := fun _ _ _ _ _ => ?_) | refine z_w (kk := fun _ _ => ?_) | refine z_s (kk := fun _ _ _ _ => ?_) | refine z_D (kk := ?_) | refine z_g (kk := ?_) | refine z_h (kk := ?_)))
              refine W.ordA 5 [(0, 2), (1, 2), (2, 1), (3, 1), (4, 2), (5, 0)] rfl (by kernel_rfl) rfl (by kernel_rfl) (fun _ _ _ h => h) ?_
              (repeat (first | refine x_p (kk := ?_) | refine x_n (kk := ?_) | refine x_a (kk := ?_) | refine x_l (kk := ?_) | refine x_M (kk := ?_) | refine x_m (kk := ?_) | refine x_e (kk := ?_) | refine x_E (kk := ?_) | refine x_T (kk := ?_) | refine x_F (kk := ?_) | refine x_I (kk := fun _ => ?_) | refine x_J (kk := fun _ => ?_) | refine x_K (kk := fun _ => ?_) | refine x_L (kk := fun _ => ?_) | refine x_k (kk := fun _ _ _ _ _ => ?_) | refine x_w (kk := fun _ _ => ?_) | refine x_s (kk := fun _ _ _ _ => ?_) | refine x_D (kk := ?_) | refine x_t (kk := ?_) | refine x_f (kk := ?_)))
              refine OrdA.eff rfl (fun w' hw' => Ops.put rfl rfl rfl rfl rfl rfl rfl rfl (hM12.kp (Kp.of_below (S := fun _ => False) hw') (fun e => e)) (fun w14 hM14 k14 _ => Ops.nil (W.endl (VW.Ord.nil ?_))))
              have hb14 : Below w5.heap.size w5 w14 := Below.put (Below.via hb12 hw') k14 (fun j hj => by omega)
              have hB14 := (hB1012.kp (Kp.of_below (S := fun _ => False) hw') (fun e => e)).kp k14 (fun e => hne10 e.symm)
              (repeat (first | with_reducible refine W.seq ?_ | with_reducible refine Ops.nil ?_ | with_reducible refine W.region ?_ | refine z_p (kk := ?_) | refine z_a (kk := ?_) | refine z_y (kk := ?_) | refine z_n (kk := ?_) | refine z_u (kk := ?_) | with_reducible refine W.skip ?_ | with_reducible refine W.endb ?_ | with_reducible refine W.block ?_ | refine W.exit rfl ?_ | refine z_l (kk := ?_) | refine z_f (kk := ?_) | refine z_M (kk := ?_) | refine z_m (kk := ?_) | refine z_e (kk := ?_) | refine z_E (kk := ?_) | refine z_d (kk := ?_) | refine z_I (kk := fun _ => ?_) | refine z_J (kk := fun _ => ?_) | refine z_K (kk := fun _ => ?_) | refine z_L (kk := fun _ => ?_) | refine z_T (kk := ?_) | refine z_F (kk := ?_) | refine z_k (kk := fun _ _ _ _ _ => ?_) | refine z_w (kk := fun _ _ => ?_) | refine z_s (kk := fun _ _ _ _ => ?_) | refine z_D (kk := ?_) | refine z_g (kk := ?_) | refine z_h (kk := ?_)))
              exact W.endl ⟨_, _, ⟨⟨i + 1, _, _, rfl, by omega, rfl, hb14, hB14, hM14, hP'⟩, by omega⟩, (by repeat (first | exact trivial | refine And.intro rfl ?_))⟩
            | false =>
              have hkl := hTF.klen i hil
              refine W.condF rfl rfl ?_
              (repeat (first | with_reducible refine W.seq ?_ | with_reducible refine Ops.nil ?_ | with_reducible refine W.region ?_ | refine z_p (kk := ?_) | refine z_a (kk := ?_) | refine z_y (kk := ?_) | refine z_n (kk := ?_) | refine z_u (kk := ?_) | with_reducible refine W.skip ?_ | with_reducible refine W.endb ?_ | with_reducible refine W.block ?_ | refine W.exit rfl ?_ | refine z_l (kk := ?_) | refine z_f (kk := ?_) | refine z_M (kk := ?_) | refine z_m (kk := ?_) | refine z_e (kk := ?_) | refine z_E (kk := ?_) | refine z_d (kk := ?_) | refine z_I (kk := fun _ => ?_) | refine z_J (kk := fun _ => ?_) | refine z_K (kk := fun _ => ?_) | refine z_L (kk := fun _ => ?_) | refine z_T (kk := ?_) | refine z_F (kk := ?_) | refine z_k (kk := fun _ _ _ _ _ => ?_) | refine z_w (kk := fun _ _ => ?_) | refine z_s (kk := fun _ _ _ _ => ?_) | refine z_D (kk := ?_) | refine z_g (kk := ?_) | refine z_h (kk := ?_)))
              refine W.loop (fun m ρ w8 => ∃ (j : Nat) (h : Int → Bool), m = (kid l i).length - j ∧ j ≤ (kid l i).length ∧ ρ = [(3, .pointer (some ⟨b2, 0, none⟩)), (6, .pointer (some ⟨b6, 0, none⟩)), (10, .pointer (some ⟨b10, 0, none⟩)), (42, .slice At l.length ct), (43, .int .i64 l.length), (44, .int .i64 i), (50, .slice Ak (kid l i).length ck), (51, .int .i64 (kid l i).length), (52, .int .i64 j)] ∧ Below w5.heap.size w5 w8 ∧ Blk w8 b10 #[.map (some mb)] 79 ∧ MapB w8 mb h ∧ (∀ k, h k = (f2 k || decide (∃ b : Nat, b < j ∧ k_ l i b = k))))
                ⟨_, _, ⟨0, f2, rfl, Nat.zero_le _, rfl, hb12, hB1012, hM12, fun k => by rw [decide_eq_false (fun ⟨b, hb, _⟩ => by omega), Bool.or_false]⟩, (by repeat (first | exact trivial | refine And.intro rfl ?_))⟩ ?_
              clear hM12 hB1012 hb12
              rintro m ρ w8 ⟨j, h, rfl, hj, rfl, hb12, hB1012, hM, hh⟩
              (repeat (first | with_reducible refine W.seq ?_ | with_reducible refine Ops.nil ?_ | with_reducible refine W.region ?_ | refine z_p (kk := ?_) | refine z_a (kk := ?_) | refine z_y (kk := ?_) | refine z_n (kk := ?_) | refine z_u (kk := ?_) | with_reducible refine W.skip ?_ | with_reducible refine W.endb ?_ | with_reducible refine W.block ?_ | refine W.exit rfl ?_ | refine z_l (kk := ?_) | refine z_f (kk := ?_) | refine z_M (kk := ?_) | refine z_m (kk := ?_) | refine z_e (kk := ?_) | refine z_E (kk := ?_) | refine z_d (kk := ?_) | refine z_I (kk := fun _ => ?_) | refine z_J (kk := fun _ => ?_) | refine z_K (kk := fun _ => ?_) | refine z_L (kk := fun _ => ?_) | refine z_T (kk := ?_) | refine z_F (kk := ?_) | refine z_k (kk := fun _ _ _ _ _ => ?_) | refine z_w (kk := fun _ _ => ?_) | refine z_s (kk := fun _ _ _ _ => ?_) | refine z_D (kk := ?_) | refine z_g (kk := ?_) | refine z_h (kk := ?_)))
              (first | refine W.condD rfl (fun hc => ?_) (fun hc => ?_) | refine W.condE rfl (fun hc => ?_) (fun hc => ?_) | refine W.condN rfl (fun hc => ?_) (fun hc => ?_) | refine W.cond rfl (fun hc => ?_) (fun hc => ?_))
              · have hjl : j < (kid l i).length := by omega
                (repeat (first | with_reducible refine W.seq ?_ | with_reducible refine Ops.nil ?_ | with_reducible refine W.region ?_ | refine z_p (kk := ?_) | refine z_a (kk := ?_) | refine z_y (kk := ?_) | refine z_n (kk := ?_) | refine z_u (kk := ?_) | with_reducible refine W.skip ?_ | with_reducible refine W.endb ?_ | with_reducible refine W.block ?_ | refine W.exit rfl ?_ | refine z_l (kk := ?_) | refine z_f (kk := ?_) | refine z_M (kk := ?_) | refine z_m (kk := ?_) | refine z_e (kk := ?_) | refine z_E (kk := ?_) | refine z_d (kk := ?_) | refine z_I (kk := fun _ => ?_) | refine z_J (kk := fun _ => ?_) | refine z_K (kk := fun _ => ?_) | refine z_L (kk := fun _ => ?_) | refine z_T (kk := ?_) | refine z_F (kk := ?_) | refine z_k (kk := fun _ _ _ _ _ => ?_) | refine z_w (kk := fun _ _ => ?_) | refine z_s (kk := fun _ _ _ _ => ?_) | refine z_D (kk := ?_) | refine z_g (kk := ?_) | refine z_h (kk := ?_)))
                refine Ops.put rfl rfl rfl rfl rfl rfl rfl rfl hM (fun w9 hM9 k9 _ => ?_)
                have hb19 : Below w5.heap.size w5 w9 := Below.put hb12 k9 (fun j hj => by omega)
                have hB19 := hB1012.kp k9 (fun e => hne10 e.symm)
                have hh9 : ∀ k, (h k || k == (kid l i).getD j 0) = (f2 k || decide (∃ b : Nat, b < j + 1 ∧ k_ l i b = k)) := fun k => by
                  rw [hh k, Bool.or_assoc]
                  congr 1
                  rw [show (k == (kid l i).getD j 0) = decide (k = (kid l i).getD j 0) from rfl, ← Bool.decide_or, decide_eq_decide]
                  constructor
                  · rintro (⟨b, hb, e⟩ | e)
                    · exact ⟨b, by omega, e⟩
                    · exact ⟨j, by omega, e.symm⟩
                  · rintro ⟨b, hb, e⟩
                    by_cases hbj : b = j
                    · subst hbj; exact .inr e.symm
                    · exact .inl ⟨b, by omega, e⟩
                (repeat (first | with_reducible refine W.seq ?_ | with_reducible refine Ops.nil ?_ | with_reducible refine W.region ?_ | refine z_p (kk := ?_) | refine z_a (kk := ?_) | refine z_y (kk := ?_) | refine z_n (kk := ?_) | refine z_u (kk := ?_) | with_reducible refine W.skip ?_ | with_reducible refine W.endb ?_ | with_reducible refine W.block ?_ | refine W.exit rfl ?_ | refine z_l (kk := ?_) | refine z_f (kk := ?_) | refine z_M (kk := ?_) | refine z_m (kk := ?_) | refine z_e (kk := ?_) | refine z_E (kk := ?_) | refine z_d (kk := ?_) | refine z_I (kk := fun _ => ?_) | refine z_J (kk := fun _ => ?_) | refine z_K (kk := fun _ => ?_) | refine z_L (kk := fun _ => ?_) | refine z_T (kk := ?_) | refine z_F (kk := ?_) | refine z_k (kk := fun _ _ _ _ _ => ?_) | refine z_w (kk := fun _ _ => ?_) | refine z_s (kk := fun _ _ _ _ => ?_) | refine z_D (kk := ?_) | refine z_g (kk := ?_) | refine z_h (kk := ?_)))
                exact W.endl ⟨_, _, ⟨⟨j + 1, _, rfl, by omega, rfl, hb19, hB19, hM9, hh9⟩, by omega⟩, (by repeat (first | exact trivial | refine And.intro rfl ?_))⟩
              · have hjl : j = (kid l i).length := by omega
                subst hjl
                have hP' : PI l dep (rd out) (i + 1) h gh := by
                  cases hlf : leafB l i with
                  | true =>
                    have hk0 : kid l i = [] := by unfold leafB at hlf; simpa using hlf
                    have : h = f2 := funext fun k => by rw [hh k, decide_eq_false (fun ⟨b, hb, _⟩ => by rw [hk0] at hb; simp at hb), Bool.or_false]
                    subst this
                    exact hP2.skip hTF hil (.inr hlf)
                  | false =>
                    rw [hlf] at hgo
                    exact hP2.min hTF hil hfi (by simpa using hgo) hh
                (repeat (first | with_reducible refine W.seq ?_ | with_reducible refine Ops.nil ?_ | with_reducible refine W.region ?_ | refine z_p (kk := ?_) | refine z_a (kk := ?_) | refine z_y (kk := ?_) | refine z_n (kk := ?_) | refine z_u (kk := ?_) | with_reducible refine W.skip ?_ | with_reducible refine W.endb ?_ | with_reducible refine W.block ?_ | refine W.exit rfl ?_ | refine z_l (kk := ?_) | refine z_f (kk := ?_) | refine z_M (kk := ?_) | refine z_m (kk := ?_) | refine z_e (kk := ?_) | refine z_E (kk := ?_) | refine z_d (kk := ?_) | refine z_I (kk := fun _ => ?_) | refine z_J (kk := fun _ => ?_) | refine z_K (kk := fun _ => ?_) | refine z_L (kk := fun _ => ?_) | refine z_T (kk := ?_) | refine z_F (kk := ?_) | refine z_k (kk := fun _ _ _ _ _ => ?_) | refine z_w (kk := fun _ _ => ?_) | refine z_s (kk := fun _ _ _ _ => ?_) | refine z_D (kk := ?_) | refine z_g (kk := ?_) | refine z_h (kk := ?_)))
                exact W.endl ⟨_, _, ⟨⟨i + 1, h, gh, rfl, by omega, rfl, hb12, hB1012, hM, hP'⟩, by omega⟩, (by repeat (first | exact trivial | refine And.intro rfl ?_))⟩
        · have hil : i = l.length := by omega
          subst hil
          (repeat (first | with_reducible refine W.seq ?_ | with_reducible refine Ops.nil ?_ | with_reducible refine W.region ?_ | refine z_p (kk := ?_) | refine z_a (kk := ?_) | refine z_y (kk := ?_) | refine z_n (kk := ?_) | refine z_u (kk := ?_) | with_reducible refine W.skip ?_ | with_reducible refine W.endb ?_ | with_reducible refine W.block ?_ | refine W.exit rfl ?_ | refine z_l (kk := ?_) | refine z_f (kk := ?_) | refine z_M (kk := ?_) | refine z_m (kk := ?_) | refine z_e (kk := ?_) | refine z_E (kk := ?_) | refine z_d (kk := ?_) | refine z_I (kk := fun _ => ?_) | refine z_J (kk := fun _ => ?_) | refine z_K (kk := fun _ => ?_) | refine z_L (kk := fun _ => ?_) | refine z_T (kk := ?_) | refine z_F (kk := ?_) | refine z_k (kk := fun _ _ _ _ _ => ?_) | refine z_w (kk := fun _ _ => ?_) | refine z_s (kk := fun _ _ _ _ => ?_) | refine z_D (kk := ?_) | refine z_g (kk := ?_) | refine z_h (kk := ?_)))
          have hf2 : ∀ c : Nat, c < l.length → f2 c = bsF.getD c false := fun c hc => PI.same hTF hP2 hbsF c (by omega) hc
          refine Ops.alloc rfl rfl rfl rfl (fun w11 b15 hM15 => ?_)
          refine Ops.st rfl rfl rfl rfl rfl rfl rfl hM15.at_ (by decide) (fun w12 hu15 => ?_)
          have k12 := hM15.kp.trans hu15.kp
          have hr15 := hM15.r_eq
          have hB15' : Blk w12 b15 #[.int .i64 far] 3 := hu15.blk
          have hb12 : Below w5.heap.size w5 w12 := Below.put hb10 k12 (fun j hj => by rcases hj with hj | hj; exact hj.elim; have := hb10.size; omega)
          have hM12 := hM.kp k12 (fun hj => by rcases hj with hj | hj; exact hj.elim; have := hM.lt; omega)
          have hB1012 := hB10.kp k12 (fun hj => by rcases hj with hj | hj; exact hj.elim; have := hB10.lt; omega)
          have hn15m : mb ≠ b15 := by have := hM.lt; omega
          have hn15b : b10 ≠ b15 := by have := hB10.lt; omega
          have hb155 : w5.heap.size ≤ b15 := by have := hb10.size; omega
          clear hM hB10 hM15 hu15
          refine Ops.nil ?_
          refine W.toJ (JW.seq (by exact rfl) ?_)
          (repeat (first | with_reducible refine W.seq ?_ | with_reducible refine Ops.nil ?_ | with_reducible refine W.region ?_ | refine z_p (kk := ?_) | refine z_a (kk := ?_) | refine z_y (kk := ?_) | refine z_n (kk := ?_) | refine z_u (kk := ?_) | with_reducible refine W.skip ?_ | with_reducible refine W.endb ?_ | with_reducible refine W.block ?_ | refine W.exit rfl ?_ | refine z_l (kk := ?_) | refine z_f (kk := ?_) | refine z_M (kk := ?_) | refine z_m (kk := ?_) | refine z_e (kk := ?_) | refine z_E (kk := ?_) | refine z_d (kk := ?_) | refine z_I (kk := fun _ => ?_) | refine z_J (kk := fun _ => ?_) | refine z_K (kk := fun _ => ?_) | refine z_L (kk := fun _ => ?_) | refine z_T (kk := ?_) | refine z_F (kk := ?_) | refine z_k (kk := fun _ _ _ _ _ => ?_) | refine z_w (kk := fun _ _ => ?_) | refine z_s (kk := fun _ _ _ _ => ?_) | refine z_D (kk := ?_) | refine z_g (kk := ?_) | refine z_h (kk := ?_)))
          refine Ops.call rfl rfl rfl rfl rfl (leavesF_c w12 (some ⟨g, 0, none⟩)) (fun r w13 hR => ?_)
          obtain ⟨b97, rfl, hB97, hb1213, hge97⟩ := hR
          have hb13 := Below.via hb12 hb1213
          have hM13 := hM12.kp (Kp.of_below (S := fun _ => False) hb1213) (fun e => e)
          have hB1013 := hB1012.kp (Kp.of_below (S := fun _ => False) hb1213) (fun e => e)
          have hB1513 := hB15'.kp (Kp.of_below (S := fun _ => False) hb1213) (fun e => e)
          have hn97 : b97 ≠ b15 := by have := hB15'.lt; omega
          refine Ops.nil (W.endl ?_)
          refine JW.sub (ρ' := [(6, .pointer (some ⟨b6, 0, none⟩)), (10, .pointer (some ⟨b10, 0, none⟩)), (15, .pointer (some ⟨b15, 0, none⟩)), (81, .func (.func 97) #[] #[.pointer (some ⟨b97, 0, none⟩)])]) (by repeat (first | exact trivial | refine And.intro rfl ?_)) ?_
          have hmlt := hM13.lt
          have hblt := hB1013.lt
          have h97lt := hB97.lt
          have h15lt := hB1513.lt
          have hsz13 := hb13.size
          have hw5b : ∀ W, Kp (fun k => k = b15 ∨ w13.heap.size ≤ k) w13 W → Below w5.heap.size w5 W := fun W hk => Below.put hb13 hk (fun k e => by omega)
          refine JW.leaves (g := g) (b97 := b97) (I := fun i W => Kp (fun k => k = b15 ∨ w13.heap.size ≤ k) w13 W ∧ Blk W b15 #[.int .i64 (lst l (fun i => bsF.getD i false) far i)] 3) hTF rfl (by exact rfl) (by exact rfl)
            (fun i W h => ⟨hB97.kp h.1 (fun e => by omega), hG5.below (hw5b W h.1)⟩)
            (fun i W W' h hk => ⟨(h.1.trans hk).mono (fun k _ e => by omega), h.2.kp hk (fun e => by omega)⟩)
            (fun i W h hi hl => ⟨h.1, by simp only [lst, hl, Bool.and_false]; exact h.2⟩)
            ⟨(Kp.of_below (Below.refl _ _)), hB1513⟩ (fun L i wr h hi hl hL => ?_) (fun D W3 h hD hDge => ?_)
          · refine Wi.regionN rfl rfl ?_
            (repeat (first | with_reducible refine W.seq ?_ | with_reducible refine Ops.nil ?_ | with_reducible refine W.region ?_ | refine z_p (kk := ?_) | refine z_a (kk := ?_) | refine z_y (kk := ?_) | refine z_n (kk := ?_) | refine z_u (kk := ?_) | with_reducible refine W.skip ?_ | with_reducible refine W.endb ?_ | with_reducible refine W.block ?_ | refine W.exit rfl ?_ | refine z_l (kk := ?_) | refine z_f (kk := ?_) | refine z_M (kk := ?_) | refine z_m (kk := ?_) | refine z_e (kk := ?_) | refine z_E (kk := ?_) | refine z_d (kk := ?_) | refine z_I (kk := fun _ => ?_) | refine z_J (kk := fun _ => ?_) | refine z_K (kk := fun _ => ?_) | refine z_L (kk := fun _ => ?_) | refine z_T (kk := ?_) | refine z_F (kk := ?_) | refine z_k (kk := fun _ _ _ _ _ => ?_) | refine z_w (kk := fun _ _ => ?_) | refine z_s (kk := fun _ _ _ _ => ?_) | refine z_D (kk := ?_) | refine z_g (kk := ?_) | refine z_h (kk := ?_)))
            refine W.endl ⟨rfl, rfl, fun wq h' => ?_⟩
            obtain ⟨hk', hB'⟩ := h'
            have hM' := hM13.kp hk' (fun e => by omega)
            have hB10' := hB1013.kp hk' (fun e => by omega)
            have hb5' := hw5b wq hk'
            have hG' := hG5.below hb5'
            refine Wi.block (Wi.seq (Wi.regionN rfl rfl ?_))
            (repeat (first | with_reducible refine W.seq ?_ | with_reducible refine Ops.nil ?_ | with_reducible refine W.region ?_ | refine z_p (kk := ?_) | refine z_a (kk := ?_) | refine z_y (kk := ?_) | refine z_n (kk := ?_) | refine z_u (kk := ?_) | with_reducible refine W.skip ?_ | with_reducible refine W.endb ?_ | with_reducible refine W.block ?_ | refine W.exit rfl ?_ | refine z_l (kk := ?_) | refine z_f (kk := ?_) | refine z_M (kk := ?_) | refine z_m (kk := ?_) | refine z_e (kk := ?_) | refine z_E (kk := ?_) | refine z_d (kk := ?_) | refine z_I (kk := fun _ => ?_) | refine z_J (kk := fun _ => ?_) | refine z_K (kk := fun _ => ?_) | refine z_L (kk := fun _ => ?_) | refine z_T (kk := ?_) | refine z_F (kk := ?_) | refine z_k (kk := fun _ _ _ _ _ => ?_) | refine z_w (kk := fun _ _ => ?_) | refine z_s (kk := fun _ _ _ _ => ?_) | refine z_D (kk := ?_) | refine z_g (kk := ?_) | refine z_h (kk := ?_)))
            refine Ops.look rfl rfl rfl rfl rfl rfl rfl rfl hM' ?_
            rw [hf2 i hi]
            refine Ops.nil (W.endl ?_)
            refine Wi.cond rfl (fun hc => ?_) (fun hc => Wi.skip ⟨rfl, ⟨hk', ?_⟩, Kp.of_below (Below.refl _ _)⟩)
            · have hls : lst l (fun i => bsF.getD i false) far (i + 1) = min (lst l (fun i => bsF.getD i false) far i) (wor l i) := by simp only [lst, hl, hc]; rfl
              rw [hls]
              refine Wi.ordA 5 [(0, 2), (1, 2), (2, 1), (3, 2), (4, 1), (5, 0)] rfl (by kernel_rfl) (by kernel_rfl) (by kernel_rfl) rfl (by kernel_rfl) ?_
              (repeat (first | refine x_p (kk := ?_) | refine x_n (kk := ?_) | refine x_a (kk := ?_) | refine x_l (kk := ?_) | refine x_M (kk := ?_) | refine x_m (kk := ?_) | refine x_e (kk := ?_) | refine x_E (kk := ?_) | refine x_T (kk := ?_) | refine x_F (kk := ?_) | refine x_I (kk := fun _ => ?_) | refine x_J (kk := fun _ => ?_) | refine x_K (kk := fun _ => ?_) | refine x_L (kk := fun _ => ?_) | refine x_k (kk := fun _ _ _ _ _ => ?_) | refine x_w (kk := fun _ _ => ?_) | refine x_s (kk := fun _ _ _ _ => ?_) | refine x_D (kk := ?_) | refine x_t (kk := ?_) | refine x_f (kk := ?_)))
              refine OrdA.call rfl rfl rfl rfl rfl rfl rfl (fun w' hw' => (worth_c (hG'.below hw') i (by omega) (by omega)).mono fun e w'' ⟨v, he, hv⟩ => ⟨v, he, hv.1, by rw [hv.2]; exact hw'⟩) ?_
              (repeat (first | refine x_p (kk := ?_) | refine x_n (kk := ?_) | refine x_a (kk := ?_) | refine x_l (kk := ?_) | refine x_M (kk := ?_) | refine x_m (kk := ?_) | refine x_e (kk := ?_) | refine x_E (kk := ?_) | refine x_T (kk := ?_) | refine x_F (kk := ?_) | refine x_I (kk := fun _ => ?_) | refine x_J (kk := fun _ => ?_) | refine x_K (kk := fun _ => ?_) | refine x_L (kk := fun _ => ?_) | refine x_k (kk := fun _ _ _ _ _ => ?_) | refine x_w (kk := fun _ _ => ?_) | refine x_s (kk := fun _ _ _ _ => ?_) | refine x_t (kk := ?_) | refine x_f (kk := ?_)))
              refine OrdA.eff rfl (fun w' hw' => Ops.st rfl rfl rfl rfl rfl rfl rfl (hB'.kp (Kp.of_below (S := fun _ => False) hw') (fun e => e)) (by simp) (fun w14 hu14 => Ops.nil (W.endl (VW.Ord.nil (W.endl ?_)))))
              have hkk := (Kp.of_below (S := fun k => k = b15) hw').trans hu14.kp
              exact ⟨rfl, ⟨(hk'.trans hkk).mono (fun k _ e => by omega), by simpa using hu14.blk⟩, hkk.mono (fun k _ e => by omega)⟩
            · simp only [lst, hc, Bool.false_and]; exact hB'
          · obtain ⟨hk3, hB3⟩ := h
            have hb53 := hw5b W3 hk3
            have hb03 := Below.via hb05 hb53
            (repeat (first | with_reducible refine W.seq ?_ | with_reducible refine Ops.nil ?_ | with_reducible refine W.region ?_ | refine z_p (kk := ?_) | refine z_a (kk := ?_) | refine z_y (kk := ?_) | refine z_n (kk := ?_) | refine z_u (kk := ?_) | with_reducible refine W.skip ?_ | with_reducible refine W.endb ?_ | with_reducible refine W.block ?_ | refine W.exit rfl ?_ | refine z_l (kk := ?_) | refine z_f (kk := ?_) | refine z_M (kk := ?_) | refine z_m (kk := ?_) | refine z_e (kk := ?_) | refine z_E (kk := ?_) | refine z_d (kk := ?_) | refine z_I (kk := fun _ => ?_) | refine z_J (kk := fun _ => ?_) | refine z_K (kk := fun _ => ?_) | refine z_L (kk := fun _ => ?_) | refine z_T (kk := ?_) | refine z_F (kk := ?_) | refine z_k (kk := fun _ _ _ _ _ => ?_) | refine z_w (kk := fun _ _ => ?_) | refine z_s (kk := fun _ _ _ _ => ?_) | refine z_D (kk := ?_) | refine z_g (kk := ?_) | refine z_h (kk := ?_)))
            refine W.ret ⟨rfl, hD, _, fun a hr => run_results hr rfl, ?_⟩
            have hbf := Below.put hb03 (kp_putObj (r := D) (.deferred none)) (fun k hk => by have := hb05.size; omega)
            exact ⟨hbf, Or.inl ⟨hxl, hok, rfl⟩⟩
      · have hno : ¬ OkP l dep xs bsF := fun hok => by
          obtain ⟨h1, h2, h3⟩ := plan_of_ok hTF hbsF hP hok hxl
          refine hgo ⟨?_, h1⟩
          rw [← hq]
          exact asked_all.2 fun i hi a b c => decide_eq_true (h3 i hi a b c)
        have : (q && decide (out = xs)) = false := by
          cases q with
          | false => rfl
          | true => rw [Bool.true_and]; exact decide_eq_false fun e => hgo ⟨rfl, e⟩
        rw [this]
        refine W.condT rfl rfl ?_
        (repeat (first | with_reducible refine W.seq ?_ | with_reducible refine Ops.nil ?_ | with_reducible refine W.region ?_ | refine z_p (kk := ?_) | refine z_a (kk := ?_) | refine z_y (kk := ?_) | refine z_n (kk := ?_) | refine z_u (kk := ?_) | with_reducible refine W.skip ?_ | with_reducible refine W.endb ?_ | with_reducible refine W.block ?_ | refine W.exit rfl ?_ | refine z_l (kk := ?_) | refine z_f (kk := ?_) | refine z_M (kk := ?_) | refine z_m (kk := ?_) | refine z_e (kk := ?_) | refine z_E (kk := ?_) | refine z_d (kk := ?_) | refine z_I (kk := fun _ => ?_) | refine z_J (kk := fun _ => ?_) | refine z_K (kk := fun _ => ?_) | refine z_L (kk := fun _ => ?_) | refine z_T (kk := ?_) | refine z_F (kk := ?_) | refine z_k (kk := fun _ _ _ _ _ => ?_) | refine z_w (kk := fun _ _ => ?_) | refine z_s (kk := fun _ _ _ _ => ?_) | refine z_D (kk := ?_) | refine z_g (kk := ?_) | refine z_h (kk := ?_)))
        exact W.fret rfl ⟨hb09, Or.inr ⟨fun h => hno h.2, rfl⟩⟩
    · refine W.condT rfl (by first | rfl | assumption | (simp only [bnf] <;> omega) | (simp only [*, bnf]; done) | fail) ?_
      (repeat (first | with_reducible refine W.seq ?_ | with_reducible refine Ops.nil ?_ | with_reducible refine W.region ?_ | refine z_p (kk := ?_) | refine z_a (kk := ?_) | refine z_y (kk := ?_) | refine z_n (kk := ?_) | refine z_u (kk := ?_) | with_reducible refine W.skip ?_ | with_reducible refine W.endb ?_ | with_reducible refine W.block ?_ | refine W.exit rfl ?_ | refine z_l (kk := ?_) | refine z_f (kk := ?_) | refine z_M (kk := ?_) | refine z_m (kk := ?_) | refine z_e (kk := ?_) | refine z_E (kk := ?_) | refine z_d (kk := ?_) | refine z_I (kk := fun _ => ?_) | refine z_J (kk := fun _ => ?_) | refine z_K (kk := fun _ => ?_) | refine z_L (kk := fun _ => ?_) | refine z_T (kk := ?_) | refine z_F (kk := ?_) | refine z_k (kk := fun _ _ _ _ _ => ?_) | refine z_w (kk := fun _ _ => ?_) | refine z_s (kk := fun _ _ _ _ => ?_) | refine z_D (kk := ?_) | refine z_g (kk := ?_) | refine z_h (kk := ?_)))
      exact W.fret rfl ⟨hb05, Or.inr ⟨fun h => hxl h.1, rfl⟩⟩
end Go.Proofs.Ytdiljpnfochndaa
