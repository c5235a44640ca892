/- A part of the walk: what this seat's statements share. -/
import Derived.Test.YtehjmakiljhjdaaZG6
import Derived.Test.YtehjmakiljhjdaaZG5
set_option linter.unusedVariables false
set_option linter.unusedSimpArgs false
set_option linter.unusedSectionVars false
/- Plain: totals of the last buttons, and assignments. -/
namespace Go.Proofs.Ytehjmakiljhjdaa
open Go Go.RowKit Go.Proofs.Ytehjmakiljhjdaa.VW
def eC (c : List (List Int)) (i j : Nat) : Int := (c.getD i []).getD j 0
/-- The total of the last k buttons by f, some left out. -/
def sumR (c : List (List Int)) (g : Int → Bool) (f : Nat → Nat) : Nat → Int
  | 0 => 0
  | k + 1 => (if g ((c.length - (k + 1) : Nat) : Int) then 0 else eC c (c.length - (k + 1)) (f (c.length - (k + 1)))) + sumR c g f k
def OkF (c : List (List Int)) (g : Int → Bool) (t k : Nat) (f : Nat → Nat) : Prop := ∀ i : Nat, c.length - k ≤ i → i < c.length → g (i : Int) = false → f i < c.length ∧ t.testBit (f i) = false ∧ ∀ q : Nat, i < q → q < c.length → g (q : Int) = false → f q ≠ f i
theorem bit_or {t j q : Nat} (h : t.testBit q = false) (hne : q ≠ j) : (t ||| 2 ^ j).testBit q = false := by
  rw [Nat.testBit_or, h, Nat.testBit_two_pow]
  simp; omega
theorem bit_or' {t j q : Nat} (h : (t ||| 2 ^ j).testBit q = false) : t.testBit q = false ∧ q ≠ j := by
  rw [Nat.testBit_or, Nat.testBit_two_pow] at h
  simp at h
  exact ⟨h.1, fun e => h.2 e.symm⟩
theorem rest_le {c : List (List Int)} {g : Int → Bool} : ∀ (k t : Nat) (f : Nat → Nat), k ≤ c.length → OkF c g t k f → restS c g k t ≤ sumR c g f k
  | 0, _, _, _, _ => Int.le_refl _
  | k + 1, t, f, hk, h => by
    simp only [restS, sumR]
    cases hg : g ((c.length - (k + 1) : Nat) : Int) with
    | true =>
      have ih := rest_le k t f (by omega) (fun i h1 h2 h3 => h i (by omega) h2 h3)
      simpa using ih
    | false =>
      obtain ⟨f1, f2, f3⟩ := h (c.length - (k + 1)) (Nat.le_refl _) (by omega) hg
      have hs := ((stepJ_spec (r := c.getD (c.length - (k + 1)) []) (t := t) (F := restS c g k) c.length).2 _ f1 f2).2
      have ih := rest_le k (t ||| 2 ^ f (c.length - (k + 1))) f (by omega) (fun i h1 h2 h3 => ⟨(h i (by omega) h2 h3).1, bit_or (h i (by omega) h2 h3).2.1 (f3 i (by omega) h2 h3), (h i (by omega) h2 h3).2.2⟩)
      simp only [Bool.false_eq_true, if_false]
      have e : eC c (c.length - (k + 1)) (f (c.length - (k + 1))) = (c.getD (c.length - (k + 1)) []).getD (f (c.length - (k + 1))) 0 := rfl
      omega
theorem sumR_congr {c : List (List Int)} {g : Int → Bool} {f f' : Nat → Nat} : ∀ k, k ≤ c.length → (∀ i, c.length - k ≤ i → i < c.length → g (i : Int) = false → f i = f' i) → sumR c g f k = sumR c g f' k
  | 0, _, _ => rfl
  | k + 1, hk, h => by
    simp only [sumR]
    rw [sumR_congr k (by omega) (fun i h1 h2 h3 => h i (by omega) h2 h3)]
    cases hg : g ((c.length - (k + 1) : Nat) : Int) with
    | true => rfl
    | false => rw [h _ (Nat.le_refl _) (by omega) hg]
/-- How many of the last k buttons are not left out. -/
def nG (c : List (List Int)) (g : Int → Bool) : Nat → Nat
  | 0 => 0
  | k + 1 => nG c g k + if g ((c.length - (k + 1) : Nat) : Int) then 0 else 1
theorem rest_att {c : List (List Int)} {g : Int → Bool} : ∀ (k t : Nat), k ≤ c.length → nG c g k + cnt t c.length ≤ c.length → ∃ f, OkF c g t k f ∧ sumR c g f k = restS c g k t
  | 0, t, _, _ => ⟨fun _ => 0, fun i h1 h2 => by omega, rfl⟩
  | k + 1, t, hk, h => by
    simp only [restS, sumR]
    cases hg : g ((c.length - (k + 1) : Nat) : Int) with
    | true =>
      have hn : nG c g (k + 1) = nG c g k := by simp [nG, hg]
      rw [hn] at h
      obtain ⟨f, h1, h2⟩ := rest_att k t (by omega) h
      refine ⟨f, fun i i1 i2 i3 => ?_, by simpa using h2⟩
      by_cases e : i = c.length - (k + 1)
      · subst e; rw [hg] at i3; cases i3
      · exact h1 i (by omega) i2 i3
    | false =>
      have hn : nG c g (k + 1) = nG c g k + 1 := by simp [nG, hg]
      rw [hn] at h
      obtain ⟨j, j1, j2, j3⟩ := (stepJ_spec (r := c.getD (c.length - (k + 1)) []) (t := t) (F := restS c g k) c.length).1 (cnt_free _ (by omega))
      have hc := cnt_or t j c.length
      rw [if_pos j1] at hc
      obtain ⟨f, h1, h2⟩ := rest_att (c := c) (g := g) k (t ||| 2 ^ j) (by omega) (by omega)
      refine ⟨fun i => if i = c.length - (k + 1) then j else f i, fun i i1 i2 i3 => ?_, ?_⟩
      · by_cases e : i = c.length - (k + 1)
        · refine ⟨by simpa [e] using j1, by simpa [e] using j2, fun q q1 q2 q3 => ?_⟩
          have := (bit_or' (h1 q (by omega) q2 q3).2.1).2
          simp only [e, if_true, show ¬ q = c.length - (k + 1) by omega, if_false]
          exact this
        · obtain ⟨a1, a2, a3⟩ := h1 i (by omega) i2 i3
          simp only [e, if_false]
          refine ⟨a1, (bit_or' a2).1, fun q q1 q2 q3 => ?_⟩
          simp only [show ¬ q = c.length - (k + 1) by omega, if_false]
          exact a3 q q1 q2 q3
      · rw [j3]
        simp only [Bool.false_eq_true, if_false, if_true]
        rw [sumR_congr (f' := f) k (by omega) (fun i i1 i2 i3 => by simp only [show ¬ i = c.length - (k + 1) by omega, if_false]), h2]
        rfl
def lstF (n : Nat) (f : Nat → Nat) : List Int := (List.range n).map fun i : Nat => ((f i : Nat) : Int)
theorem lstF_len (n : Nat) (f : Nat → Nat) : (lstF n f).length = n := by simp [lstF]
theorem lstF_get {n : Nat} {f : Nat → Nat} {i : Nat} (h : i < n) : (lstF n f).getD i 0 = (f i : Int) := by simp [lstF, List.getD_eq_getElem?_getD, h]
def funA (a : List Int) (i : Nat) : Nat := (a.getD i 0).toNat
theorem Asg.funA {a : List Int} {n : Nat} (h : Asg a n) {i : Nat} (hi : i < n) : a.getD i 0 = (Ytehjmakiljhjdaa.funA a i : Int) ∧ Ytehjmakiljhjdaa.funA a i < n := by
  have := (h.2 i (by rw [h.1]; exact hi)).1
  unfold Ytehjmakiljhjdaa.funA
  omega
theorem Asg.ne {a : List Int} {n : Nat} (h : Asg a n) {i q : Nat} (hi : i < n) (hq : q < n) (hne : i ≠ q) : Ytehjmakiljhjdaa.funA a i ≠ Ytehjmakiljhjdaa.funA a q := fun e => by
  have h1 := (h.funA hi).1
  have h2 := (h.funA hq).1
  rcases Nat.lt_or_ge i q with l | l
  · exact (h.2 q (by rw [h.1]; exact hq)).2 i l (by rw [h1, h2, e])
  · exact (h.2 i (by rw [h.1]; exact hi)).2 q (by omega) (by rw [h1, h2, e])
theorem Asg.ok {c : List (List Int)} {a : List Int} {g : Int → Bool} {t : Nat} (h : Asg a c.length) (ht : ∀ i : Nat, i < c.length → g (i : Int) = false → t.testBit (Ytehjmakiljhjdaa.funA a i) = false) : OkF c g t c.length (Ytehjmakiljhjdaa.funA a) := fun i h1 h2 h3 =>
  ⟨(h.funA h2).2, ht i h2 h3, fun q q1 q2 q3 => h.ne q2 h2 (by omega)⟩
theorem asg_of {c : List (List Int)} {f : Nat → Nat} {t : Nat} (h : OkF c g0 t c.length f) : Asg (lstF c.length f) c.length := by
  refine ⟨lstF_len _ _, fun i hi => ?_⟩
  rw [lstF_len] at hi
  have h1 := h i (by omega) hi rfl
  rw [lstF_get hi]
  refine ⟨by omega, fun k hk => ?_⟩
  rw [lstF_get (by omega)]
  have := (h k (by omega) (by omega) rfl).2.2 i hk hi rfl
  omega
theorem tot_sumR {c : List (List Int)} {a : List Int} {f : Nat → Nat} (hf : ∀ i, i < c.length → (a.getD i 0).toNat = f i) : ∀ k, k ≤ c.length → totP c a (c.length - k) + sumR c g0 f k = totP c a c.length
  | 0, _ => by simp [sumR]
  | k + 1, hk => by
    have ih := tot_sumR hf k (by omega)
    have e : c.length - k = (c.length - (k + 1)) + 1 := by omega
    rw [e] at ih
    simp only [totP] at ih
    rw [hf _ (by omega)] at ih
    simp only [sumR, show g0 ((c.length - (k + 1) : Nat) : Int) = false from rfl, Bool.false_eq_true, if_false]
    unfold eC
    omega
theorem tot_sum {c : List (List Int)} {a : List Int} {f : Nat → Nat} (hf : ∀ i, i < c.length → (a.getD i 0).toNat = f i) : sumR c g0 f c.length = totP c a c.length := by
  have := tot_sumR hf c.length (Nat.le_refl _)
  rw [Nat.sub_self] at this
  simpa [totP] using this
theorem nG_g0 {c : List (List Int)} : ∀ k, nG c g0 k = k
  | 0 => rfl
  | k + 1 => by simp [nG, nG_g0 k, g0]
def gI (i : Nat) : Int → Bool := fun k => false || k == (i : Int)
theorem gI_iff {i q : Nat} : gI i (q : Int) = false ↔ q ≠ i := by
  unfold gI
  simp
  omega
theorem gI_self {i : Nat} : gI i (i : Int) = true := by simp [gI]
theorem nG_gI {c : List (List Int)} {i : Nat} (hi : i < c.length) : ∀ k, k ≤ c.length → nG c (gI i) k + (if c.length - k ≤ i then 1 else 0) = k
  | 0, _ => by simp [nG]; omega
  | k + 1, hk => by
    have ih := nG_gI hi k (by omega)
    simp only [nG]
    by_cases e : c.length - (k + 1) = i
    · rw [e, gI_self]
      simp only [if_true, Nat.le_refl]
      simp only [show ¬ c.length - k ≤ i by omega, if_false] at ih
      omega
    · rw [gI_iff.2 e]
      simp only [Bool.false_eq_true, if_false]
      by_cases e2 : c.length - k ≤ i
      · simp only [e2, if_true, show c.length - (k + 1) ≤ i by omega] at ih ⊢; omega
      · simp only [e2, if_false, show ¬ c.length - (k + 1) ≤ i by omega] at ih ⊢; omega
theorem sumR_gI {c : List (List Int)} {i : Nat} {f : Nat → Nat} (hi : i < c.length) : ∀ k, k ≤ c.length → sumR c (gI i) f k + (if c.length - k ≤ i then eC c i (f i) else 0) = sumR c g0 f k
  | 0, _ => by simp [sumR]; intro h; omega
  | k + 1, hk => by
    have ih := sumR_gI (f := f) hi k (by omega)
    simp only [sumR, show g0 ((c.length - (k + 1) : Nat) : Int) = false from rfl]
    by_cases e : c.length - (k + 1) = i
    · rw [e, gI_self]
      simp only [if_true, Nat.le_refl, Bool.false_eq_true, if_false]
      simp only [show ¬ c.length - k ≤ i by omega, if_false] at ih
      omega
    · rw [gI_iff.2 e]
      simp only [Bool.false_eq_true, if_false]
      by_cases e2 : c.length - k ≤ i
      · simp only [e2, if_true, show c.length - (k + 1) ≤ i by omega] at ih ⊢; omega
      · simp only [e2, if_false, show ¬ c.length - (k + 1) ≤ i by omega] at ih ⊢; omega
theorem sumR_out {c : List (List Int)} {i : Nat} {f : Nat → Nat} (hi : i < c.length) : sumR c (gI i) f c.length + eC c i (f i) = sumR c g0 f c.length := by
  have := sumR_gI (f := f) hi c.length (Nat.le_refl _)
  simpa using this
/-- The smallest total of all. -/
def minT (c : List (List Int)) : Int := restS c g0 c.length 0
theorem min_le {c : List (List Int)} {a : List Int} (h : Asg a c.length) : minT c ≤ totP c a c.length := by
  have := rest_le c.length 0 (funA a) (Nat.le_refl _) (h.ok (g := g0) (t := 0) (fun _ _ _ => Nat.zero_testBit _))
  rw [tot_sum (a := a) (f := funA a) (fun i _ => rfl)] at this
  exact this
theorem min_att {c : List (List Int)} : ∃ a, Asg a c.length ∧ totP c a c.length = minT c := by
  obtain ⟨f, h1, h2⟩ := rest_att (c := c) (g := g0) c.length 0 (Nat.le_refl _) (by rw [nG_g0, cnt_zero]; omega)
  refine ⟨lstF c.length f, asg_of h1, ?_⟩
  rw [← tot_sum (f := f) (fun i hi => by rw [lstF_get hi]; rfl), h2]
  rfl
/-- Without a button. -/
theorem pay_le {c : List (List Int)} {a : List Int} {i : Nat} (h : Asg a c.length) (hi : i < c.length) : restS c (gI i) c.length 0 + eC c i (funA a i) ≤ totP c a c.length := by
  have := rest_le c.length 0 (funA a) (Nat.le_refl _) (h.ok (g := gI i) (t := 0) (fun _ _ _ => Nat.zero_testBit _))
  have e := sumR_out (f := funA a) hi
  rw [tot_sum (a := a) (f := funA a) (fun i _ => rfl)] at e
  omega
theorem free_hole {n : Nat} {f : Nat → Nat} {i : Nat} (hi : i < n) : ∃ j, j < n ∧ ∀ q, q < n → q ≠ i → f q ≠ j := by
  apply Classical.byContradiction
  intro hno
  have hall : ∀ j, j < n → ∃ q, q < n ∧ q ≠ i ∧ f q = j := fun j hj => by
    apply Classical.byContradiction
    intro h
    exact hno ⟨j, hj, fun q q1 q2 e => h ⟨q, q1, q2, e⟩⟩
  have := nodup_sub (List.range n) (((List.range n).erase i).map f) List.nodup_range (fun x hx => by
    obtain ⟨q, q1, q2, e⟩ := hall x (List.mem_range.1 hx)
    exact List.mem_map.2 ⟨q, by rw [List.Nodup.mem_erase_iff List.nodup_range]; exact ⟨q2, List.mem_range.2 q1⟩, e⟩)
  rw [List.length_map, List.length_erase_of_mem (List.mem_range.2 hi), List.length_range] at this
  omega
theorem gI_upd {c : List (List Int)} {i j t : Nat} {f : Nat → Nat} (h : OkF c (gI i) t c.length f) (hj : j < c.length) (hf : ∀ q, q < c.length → q ≠ i → f q ≠ j) : OkF c g0 0 c.length (fun q => if q = i then j else f q) := fun q h1 h2 _ => by
  by_cases e : q = i
  · simp only [e, if_true]
    refine ⟨hj, Nat.zero_testBit _, fun r r1 r2 _ => ?_⟩
    simp only [show ¬ r = i by omega, if_false]
    exact hf r r2 (by omega)
  · have hq := h q h1 h2 (gI_iff.2 e)
    simp only [e, if_false]
    refine ⟨hq.1, Nat.zero_testBit _, fun r r1 r2 _ => ?_⟩
    by_cases e2 : r = i
    · simp only [e2, if_true]
      exact fun e3 => hf q h2 e e3.symm
    · simp only [e2, if_false]
      exact hq.2.2 r r1 r2 (gI_iff.2 e2)
theorem pay_att {c : List (List Int)} {i : Nat} (hi : i < c.length) : ∃ a, Asg a c.length ∧ restS c (gI i) c.length 0 + eC c i (funA a i) = totP c a c.length := by
  obtain ⟨f, h1, h2⟩ := rest_att (c := c) (g := gI i) c.length 0 (Nat.le_refl _) (by rw [cnt_zero]; have := nG_gI hi c.length (Nat.le_refl _); omega)
  obtain ⟨j, j1, j2⟩ := free_hole (f := f) hi
  have h3 := gI_upd h1 j1 j2
  refine ⟨_, asg_of h3, ?_⟩
  rw [← tot_sum (f := fun q => if q = i then j else f q) (fun i hi => by rw [lstF_get hi]; rfl), ← sumR_out hi, sumR_congr (f' := f) c.length (Nat.le_refl _) (fun q _ _ h => by simp only [show ¬ q = i from gI_iff.1 h, if_false]), h2]
  unfold funA
  rw [lstF_get hi]
  rfl
/-- With a pair. -/
theorem sl_le {c : List (List Int)} {a : List Int} {i j : Nat} (h : Asg a c.length) (hi : i < c.length) (hj : funA a i = j) : eC c i j + restS c (gI i) c.length (2 ^ j) ≤ totP c a c.length := by
  have := rest_le c.length (2 ^ j) (funA a) (Nat.le_refl _) (h.ok (g := gI i) (t := 2 ^ j) (fun q q1 q2 => by
    rw [Nat.testBit_two_pow]
    have := h.ne hi q1 (fun e => gI_iff.1 q2 e.symm)
    simp only [decide_eq_false_iff_not]
    omega))
  have e := sumR_out (f := funA a) hi
  rw [tot_sum (a := a) (f := funA a) (fun i _ => rfl), hj] at e
  omega
theorem cnt_pow {j : Nat} : ∀ n, cnt (2 ^ j) n ≤ if j < n then 1 else 0 := fun n => by
  have := cnt_or 0 j n
  rw [Nat.zero_or, cnt_zero] at this
  omega
theorem sl_att {c : List (List Int)} {i j : Nat} (hi : i < c.length) (hj : j < c.length) : ∃ a, Asg a c.length ∧ funA a i = j ∧ eC c i j + restS c (gI i) c.length (2 ^ j) = totP c a c.length := by
  obtain ⟨f, h1, h2⟩ := rest_att (c := c) (g := gI i) c.length (2 ^ j) (Nat.le_refl _) (by
    have := nG_gI hi c.length (Nat.le_refl _)
    have h3 := cnt_pow (j := j) c.length
    simp only [hj, if_true] at h3
    simp at this
    omega)
  have h3 := gI_upd h1 hj (fun q q1 q2 => by
    have := (h1 q (by omega) q1 (gI_iff.2 q2)).2.1
    rw [Nat.testBit_two_pow] at this
    simp only [decide_eq_false_iff_not] at this
    omega)
  refine ⟨_, asg_of h3, ?_, ?_⟩
  · unfold funA; rw [lstF_get hi]; simp
  rw [← tot_sum (f := fun q => if q = i then j else f q) (fun i hi => by rw [lstF_get hi]; rfl), ← sumR_out hi, sumR_congr (f' := f) c.length (Nat.le_refl _) (fun q _ _ h => by simp only [show ¬ q = i from gI_iff.1 h, if_false]), h2]
  simp
  omega
/-- Which list comes first. -/
def lexB : List Int → List Int → Bool
  | [], [] => false
  | [], _ :: _ => true
  | _ :: _, [] => false
  | a :: x, b :: y => if a = b then lexB x y else decide (a < b)
def lasF (n : Nat) (f : Nat → Nat) : Nat → List Int
  | 0 => []
  | k + 1 => (f (n - (k + 1)) : Int) :: lasF n f k
theorem first_lex_ {c : List (List Int)} : ∀ (k t : Nat) (f : Nat → Nat), k ≤ c.length → OkF c g0 t k f → sumR c g0 f k = restS c g0 k t → lasF c.length f k = firstS c k t ∨ lexB (firstS c k t) (lasF c.length f k) = true
  | 0, _, _, _, _, _ => .inl rfl
  | k + 1, t, f, hk, h, hs => by
    simp only [lasF, firstS]
    obtain ⟨f1, f2, f3⟩ := h (c.length - (k + 1)) (Nat.le_refl _) (by omega) rfl
    have hst := ((stepJ_spec (r := c.getD (c.length - (k + 1)) []) (t := t) (F := restS c g0 k) c.length).2 _ f1 f2).2
    have hok : OkF c g0 (t ||| 2 ^ f (c.length - (k + 1))) k f := fun i h1 h2 h3 => ⟨(h i (by omega) h2 h3).1, bit_or (h i (by omega) h2 h3).2.1 (f3 i (by omega) h2 h3), (h i (by omega) h2 h3).2.2⟩
    have hle := rest_le k (t ||| 2 ^ f (c.length - (k + 1))) f (by omega) hok
    have hrs : restS c g0 (k + 1) t = (stepJ (c.getD (c.length - (k + 1)) []) t (restS c g0 k) c.length).1 := by simp [restS, g0]
    have hsu : sumR c g0 f (k + 1) = eC c (c.length - (k + 1)) (f (c.length - (k + 1))) + sumR c g0 f k := by simp [sumR, g0]
    have he : eC c (c.length - (k + 1)) (f (c.length - (k + 1))) = (c.getD (c.length - (k + 1)) []).getD (f (c.length - (k + 1))) 0 := rfl
    have hhit : hitB c k t (f (c.length - (k + 1))) = true := by
      unfold hitB
      rw [f2]
      simp only [Bool.not_false, Bool.true_and, beq_iff_eq]
      omega
    obtain ⟨p1, p2, p3, p4⟩ := findS_spec (p := hitB c k t) c.length 0
    rcases Nat.lt_trichotomy (findS (hitB c k t) c.length 0) (f (c.length - (k + 1))) with l | l | l
    · right
      simp only [lexB, show ¬ ((findS (hitB c k t) c.length 0 : Nat) : Int) = (f (c.length - (k + 1)) : Int) by omega, if_false, decide_eq_true_eq]
      omega
    · rw [l]
      rcases first_lex_ k _ f (by omega) hok (by omega) with e | e
      · left; rw [e]
      · right; simp only [lexB, if_true]; exact e
    · have := p1 _ (Nat.zero_le _) l
      rw [hhit] at this
      cases this
theorem lasF_len (n : Nat) (f : Nat → Nat) : ∀ k, (lasF n f k).length = k
  | 0 => rfl
  | k + 1 => by simp [lasF, lasF_len n f k]
theorem lasF_get {n : Nat} {f : Nat → Nat} : ∀ k, k ≤ n → ∀ q, q < k → (lasF n f k).getD q 0 = (f (n - k + q) : Int)
  | 0, _, q, hq => by omega
  | k + 1, hk, 0, _ => by simp [lasF]
  | k + 1, hk, q + 1, hq => by
    have := lasF_get (n := n) (f := f) k (by omega) q (by omega)
    simp only [lasF, List.getD_cons_succ]
    rw [this, show n - k + q = n - (k + 1) + (q + 1) from by omega]
theorem list_ext {a b : List Int} (h : a.length = b.length) (he : ∀ i, i < a.length → a.getD i 0 = b.getD i 0) : a = b := List.ext_getElem h fun j h1 h2 => by
  have := he j h1
  simpa [List.getD_eq_getElem?_getD, h1, h2] using this
theorem lasF_all {a : List Int} {n : Nat} (h : Asg a n) : lasF n (funA a) n = a := by
  refine list_ext (by rw [lasF_len, h.1]) fun i hi => ?_
  rw [lasF_len] at hi
  rw [lasF_get n (Nat.le_refl _) i hi, Nat.sub_self, Nat.zero_add, (h.funA hi).1]
theorem first_lex {c : List (List Int)} {a : List Int} (h : Asg a c.length) (ht : totP c a c.length = minT c) : a = firstS c c.length 0 ∨ lexB (firstS c c.length 0) a = true := by
  have := first_lex_ c.length 0 (funA a) (Nat.le_refl _) (h.ok (g := g0) (t := 0) (fun _ _ _ => Nat.zero_testBit _)) (by rw [tot_sum (a := a) (f := funA a) (fun i _ => rfl), ht]; rfl)
  rw [lasF_all h] at this
  exact this
theorem first_tot_ {c : List (List Int)} : ∀ (k t : Nat), k ≤ c.length → k + cnt t c.length ≤ c.length → ∀ f : Nat → Nat, (∀ q, q < k → (firstS c k t).getD q 0 = (f (c.length - k + q) : Int)) → sumR c g0 f k = restS c g0 k t
  | 0, _, _, _, _, _ => rfl
  | k + 1, t, hk, hc, f, hf => by
    have hex : ∃ j, j < c.length ∧ hitB c k t j = true := hit_ex (cnt_free _ (by omega))
    have hlt := findS_lt hex
    have hh := (findS_spec (p := hitB c k t) c.length 0).2.2.2 (by omega)
    have h0 := hf 0 (by omega)
    simp only [firstS, List.getD_cons_zero, Nat.add_zero] at h0
    have h0' : f (c.length - (k + 1)) = findS (hitB c k t) c.length 0 := by omega
    have hcn := cnt_or t (findS (hitB c k t) c.length 0) c.length
    simp only [hlt, if_true] at hcn
    have ih := first_tot_ (c := c) k (t ||| 2 ^ findS (hitB c k t) c.length 0) (by omega) (by omega) f (fun q hq => by
      have := hf (q + 1) (by omega)
      simp only [firstS, List.getD_cons_succ] at this
      rw [this, show c.length - k + q = c.length - (k + 1) + (q + 1) by omega])
    have hsu : sumR c g0 f (k + 1) = eC c (c.length - (k + 1)) (f (c.length - (k + 1))) + sumR c g0 f k := by simp [sumR, g0]
    have he : eC c (c.length - (k + 1)) (f (c.length - (k + 1))) = (c.getD (c.length - (k + 1)) []).getD (f (c.length - (k + 1))) 0 := rfl
    clear h0 hcn hex
    generalize findS (hitB c k t) c.length 0 = j at *
    unfold hitB at hh
    simp only [Bool.and_eq_true, beq_iff_eq] at hh
    rw [hsu, ih, he, h0']
    exact hh.2
theorem first_tot {c : List (List Int)} : totP c (firstS c c.length 0) c.length = minT c := by
  have hA := firstS_Asg (c := c)
  rw [← tot_sum (f := funA (firstS c c.length 0)) (fun i _ => rfl)]
  exact first_tot_ c.length 0 (Nat.le_refl _) (by rw [cnt_zero]; omega) _ (fun q hq => by rw [Nat.sub_self, Nat.zero_add]; exact (hA.funA hq).1)
end Go.Proofs.Ytehjmakiljhjdaa
/- Plain: prices that prove a cheapest assignment, found hole by hole. -/
namespace Go.Proofs.Ytehjmakiljhjdaa.HG
def upd {α : Type} (f : Nat → α) (i : Nat) (x : α) : Nat → α := fun q => if q = i then x else f q
theorem upd_eq {α : Type} {f : Nat → α} {i : Nat} {x : α} : upd f i x i = x := if_pos rfl
theorem upd_ne {α : Type} {f : Nat → α} {i q : Nat} {x : α} (h : q ≠ i) : upd f i x q = f q := if_neg h
def cntB (us : Nat → Bool) : Nat → Nat
  | 0 => 0
  | m + 1 => cntB us m + if us m then 1 else 0
theorem cntB_le (us : Nat → Bool) : ∀ m, cntB us m ≤ m
  | 0 => Nat.le_refl _
  | m + 1 => by have := cntB_le us m; simp only [cntB]; split <;> omega
theorem cntB_upd {us : Nat → Bool} {h : Nat} (hu : us h = false) : ∀ m, cntB (upd us h true) m = cntB us m + if h < m then 1 else 0
  | 0 => by simp [cntB]
  | m + 1 => by
    have ih := cntB_upd hu m
    simp only [cntB, ih]
    by_cases e : m = h
    · subst e
      rw [upd_eq, hu]
      simp
    · rw [upd_ne e]
      by_cases e2 : h < m
      · simp only [e2, if_true, show h < m + 1 by omega]; omega
      · simp only [e2, if_false, show ¬ h < m + 1 by omega]; omega
/-- m buttons are in. -/
structure PI (C : Nat → Nat → Int) (n m : Nat) (u v : Nat → Int) (o : Nat → Nat) : Prop where
  hm : m ≤ n
  im : ∀ j, 1 ≤ j → j ≤ n → o j ≤ m
  inj : ∀ j k, 1 ≤ j → j ≤ n → 1 ≤ k → k ≤ n → o j = o k → o j ≠ 0 → j = k
  sur : ∀ b, 1 ≤ b → b ≤ m → ∃ j, 1 ≤ j ∧ j ≤ n ∧ o j = b
  feas : ∀ b j, 1 ≤ b → b ≤ m → 1 ≤ j → j ≤ n → u b + v j ≤ C b j
  tight : ∀ j, 1 ≤ j → j ≤ n → o j ≠ 0 → u (o j) + v j = C (o j) j
  vneg : ∀ j, 1 ≤ j → j ≤ n → v j ≤ 0
  vlo : ∀ j, 1 ≤ j → j ≤ n → -(2000 * (m : Int)) ≤ v j
  free : ∀ j, 1 ≤ j → j ≤ n → o j = 0 → v j = 0
  u0 : ∀ b, m < b → u b = 0
  v0 : -(1000 * (m : Int)) ≤ v 0 ∧ v 0 ≤ 1000 * (m : Int)
/-- The holes that were reached, behind the first step. -/
structure QB (C : Nat → Nat → Int) (n m : Nat) (u v far : Nat → Int) (o fr : Nat → Nat) (us : Nat → Bool) (hole : Nat) : Prop where
  h1 : 1 ≤ hole
  us0 : us 0 = true
  feasI : ∀ j, 1 ≤ j → j ≤ n → u (m + 1) + v j ≤ C (m + 1) j
  far0 : far hole = 0
  pos : ∀ j, 1 ≤ j → j ≤ n → us j = false → 0 ≤ far j
  frU : ∀ j, 1 ≤ j → j ≤ n → us j = false → us (fr j) = true
  farE : ∀ j, 1 ≤ j → j ≤ n → us j = false → far j = C (o (fr j)) j - u (o (fr j)) - v j
  farL : ∀ j k, 1 ≤ j → j ≤ n → us j = false → us k = true → far j ≤ C (o k) j - u (o k) - v j
  tree : ∃ rk : Nat → Nat, ∀ k, us k = true → rk k < cntB us (n + 1) ∧ (1 ≤ k → us (fr k) = true ∧ rk (fr k) < rk k ∧ u (o (fr k)) + v k = C (o (fr k)) k)
  sum : ∃ S V : Int, 0 ≤ S ∧ -1000 ≤ u (m + 1) - S ∧ (∀ j, 1 ≤ j → j ≤ n → -(2000 * (m : Int)) - S ≤ v j) ∧ v 0 + u (m + 1) = V ∧ -(1000 * (m : Int)) ≤ V ∧ V ≤ 1000 * (m : Int)
/-- Button m + 1 looks for a hole. -/
structure QI (C : Nat → Nat → Int) (n m : Nat) (u v far : Nat → Int) (o fr : Nat → Nat) (us : Nat → Bool) (hole : Nat) : Prop where
  lt : m < n
  o0 : o 0 = m + 1
  im : ∀ j, 1 ≤ j → j ≤ n → o j ≤ m
  inj : ∀ j k, 1 ≤ j → j ≤ n → 1 ≤ k → k ≤ n → o j = o k → o j ≠ 0 → j = k
  sur : ∀ b, 1 ≤ b → b ≤ m → ∃ j, 1 ≤ j ∧ j ≤ n ∧ o j = b
  feas : ∀ b j, 1 ≤ b → b ≤ m → 1 ≤ j → j ≤ n → u b + v j ≤ C b j
  tight : ∀ j, 1 ≤ j → j ≤ n → o j ≠ 0 → u (o j) + v j = C (o j) j
  vneg : ∀ j, 1 ≤ j → j ≤ n → v j ≤ 0
  free : ∀ j, 1 ≤ j → j ≤ n → o j = 0 → v j = 0
  u0 : ∀ b, m + 1 < b → u b = 0
  hn : hole ≤ n
  hu : us hole = false
  usn : ∀ j, us j = true → j ≤ n ∧ o j ≠ 0
  st : (hole = 0 ∧ (∀ j, us j = false) ∧ (∀ j, far j = 1099511627776) ∧ u (m + 1) = 0 ∧ (∀ j, 1 ≤ j → j ≤ n → -(2000 * (m : Int)) ≤ v j) ∧ -(1000 * (m : Int)) ≤ v 0 ∧ v 0 ≤ 1000 * (m : Int)) ∨ QB C n m u v far o fr us hole
section
variable {C : Nat → Nat → Int} {n m : Nat} {u v far : Nat → Int} {o fr : Nat → Nat} {us : Nat → Bool} {hole : Nat}
/-- There is a free hole. -/
theorem free_ex {o : Nat → Nat} : ∀ (n m : Nat), m < n → (∀ j, 1 ≤ j → j ≤ n → o j ≤ m) → (∀ j k, 1 ≤ j → j ≤ n → 1 ≤ k → k ≤ n → o j = o k → o j ≠ 0 → j = k) → ∃ j, 1 ≤ j ∧ j ≤ n ∧ o j = 0
  | 0, m, h, _, _ => by omega
  | n + 1, 0, h, him, _ => ⟨1, by omega, by omega, by have := him 1 (by omega) (by omega); omega⟩
  | n + 1, m + 1, h, him, hinj => by
    -- the hole of button m + 1 is given up: exchange it with the last one
    by_cases hz : o (n + 1) = 0
    · exact ⟨n + 1, by omega, by omega, hz⟩
    · -- rename buttons: the last hole's button becomes m + 1
      let g : Nat → Nat := fun j => if o j = m + 1 then o (n + 1) else o j
      have hne : ∀ j, 1 ≤ j → j ≤ n → o j ≠ o (n + 1) := fun j h1 h2 e => by
        have := hinj j (n + 1) h1 (by omega) (by omega) (by omega) e (by rw [e]; exact hz)
        omega
      have hl := him (n + 1) (by omega) (by omega)
      obtain ⟨j, h1, h2, h3⟩ := free_ex (o := g) n m (by omega) (fun j h1 h2 => by
        have := him j h1 (by omega)
        have := hne j h1 h2
        show (if o j = m + 1 then o (n + 1) else o j) ≤ m
        split <;> omega) (fun j k h1 h2 h3 h4 e hn => by
        have q1 := hne j h1 h2
        have q2 := hne k h3 h4
        simp only [g] at e hn
        by_cases e1 : o j = m + 1 <;> by_cases e2 : o k = m + 1 <;> simp only [e1, e2, if_true, if_false] at e hn
        · exact hinj j k h1 (by omega) h3 (by omega) (by omega) (by omega)
        · exact absurd e.symm q2
        · exact absurd e q1
        · exact hinj j k h1 (by omega) h3 (by omega) e hn)
      refine ⟨j, h1, by omega, ?_⟩
      simp only [g] at h3
      split at h3
      · exact absurd h3 hz
      · exact h3
theorem QI.free_ex (h : QI C n m u v far o fr us hole) : ∃ j, 1 ≤ j ∧ j ≤ n ∧ o j = 0 := HG.free_ex n m h.lt h.im h.inj
/-- A button that starts. -/
theorem PI.start (h : PI C n m u v o) (hlt : m < n) : QI C n m u v (fun _ => 1099511627776) (upd o 0 (m + 1)) fr (fun _ => false) 0 := by
  have hne : ∀ j, 1 ≤ j → upd o 0 (m + 1) j = o j := fun j hj => upd_ne (by omega)
  refine ⟨hlt, upd_eq, fun j h1 h2 => ?_, fun j k h1 h2 h3 h4 => ?_, fun b h1 h2 => ?_, h.feas, fun j h1 h2 => ?_, h.vneg, fun j h1 h2 => ?_, fun b hb => h.u0 b (by omega), Nat.zero_le _, rfl, (fun j hj => by cases hj), .inl ⟨rfl, fun _ => rfl, fun _ => rfl, h.u0 _ (by omega), h.vlo, h.v0⟩⟩
  · rw [hne j h1]; exact h.im j h1 h2
  · rw [hne j h1, hne k h3]; exact h.inj j k h1 h2 h3 h4
  · obtain ⟨j, g1, g2, g3⟩ := h.sur b h1 h2
    exact ⟨j, g1, g2, by rw [hne j g1]; exact g3⟩
  · rw [hne j h1]; exact h.tight j h1 h2
  · rw [hne j h1]; exact h.free j h1 h2
/-- Bounds of what is read. -/
theorem QI.bounds (h : QI C n m u v far o fr us hole) (hC : ∀ b j, 1 ≤ b → b ≤ n → 1 ≤ j → j ≤ n → -1000 ≤ C b j ∧ C b j ≤ 1000) (hn : n ≤ 7) :
    (∀ j, j ≤ n → -20000 ≤ v j ∧ v j ≤ 20000) ∧ (∀ b, 1 ≤ b → -20000 ≤ u b ∧ u b ≤ 20000) ∧ (∀ j, 1 ≤ j → j ≤ n → us j = false → -100000 ≤ far j ∧ far j ≤ 1099511627776) := by
  have hlt := h.lt
  obtain ⟨jf, hf1, hf2, hf3⟩ := h.free_ex
  have hvf := h.free jf hf1 hf2 hf3
  have key : (∀ j, 1 ≤ j → j ≤ n → -16000 ≤ v j) ∧ (-8000 ≤ v 0 ∧ v 0 ≤ 8000) ∧ (-1000 ≤ u (m + 1) ∧ u (m + 1) ≤ 1000) := by
    rcases h.st with ⟨_, _, _, hu, hv, h0, h0'⟩ | hB
    · exact ⟨fun j h1 h2 => by have := hv j h1 h2; omega, by omega, by omega⟩
    · obtain ⟨S, V, hS, hu, hv, hV, hV1, hV2⟩ := hB.sum
      have h1 := hB.feasI jf hf1 hf2
      have h2 := hC (m + 1) jf (by omega) (by omega) hf1 hf2
      exact ⟨fun j g1 g2 => by have := hv j g1 g2; omega, by omega, by omega⟩
  obtain ⟨k1, k2, k3⟩ := key
  have hub : ∀ b, 1 ≤ b → -20000 ≤ u b ∧ u b ≤ 20000 := fun b hb => by
    by_cases h1 : b ≤ m
    · obtain ⟨j, g1, g2, g3⟩ := h.sur b hb h1
      have ht := h.tight j g1 g2 (by omega)
      rw [g3] at ht
      have h2 := hC b j hb (by omega) g1 g2
      have h3 := k1 j g1 g2
      have h4 := h.vneg j g1 g2
      omega
    · by_cases h2 : b = m + 1
      · subst h2; omega
      · have := h.u0 b (by omega); omega
  refine ⟨fun j hj => ?_, hub, fun j h1 h2 h3 => ?_⟩
  · by_cases e : j = 0
    · subst e; omega
    · have h1 := k1 j (by omega) hj
      have h2 := h.vneg j (by omega) hj
      omega
  · rcases h.st with ⟨_, _, hf, _⟩ | hB
    · have := hf j; omega
    · have g1 := hB.pos j h1 h2 h3
      have g2 := hB.farL j 0 h1 h2 h3 hB.us0
      rw [h.o0] at g2
      have g3 := hC (m + 1) j (by omega) (by omega) h1 h2
      have g4 := k1 j h1 h2
      omega
/-- What the look over all holes leaves. -/
structure Scan (n : Nat) (us : Nat → Bool) (hole : Nat) (d far : Nat → Int) (fr : Nat → Nat) (far' : Nat → Int) (fr' : Nat → Nat) (least : Int) (next J : Nat) : Prop where
  unu : ∀ j, 1 ≤ j → j < J → us j = false → far' j = (if d j < far j then d j else far j) ∧ fr' j = (if d j < far j then hole else fr j)
  oth : ∀ j, j = 0 ∨ J ≤ j ∨ us j = true → far' j = far j ∧ fr' j = fr j
  lst : (next = 0 ∧ least = 1099511627776 ∧ ∀ j, 1 ≤ j → j < J → us j = false → 1099511627776 ≤ far' j) ∨ (1 ≤ next ∧ next < J ∧ us next = false ∧ least = far' next ∧ ∀ j, 1 ≤ j → j < J → us j = false → least ≤ far' j)
def hasK (us : Nat → Bool) (o : Nat → Nat) (b : Nat) : Nat → Bool
  | 0 => false
  | J + 1 => hasK us o b J || (us J && o J == b)
theorem hasK_iff {us : Nat → Bool} {o : Nat → Nat} {b : Nat} : ∀ J, hasK us o b J = true ↔ ∃ k, k < J ∧ us k = true ∧ o k = b
  | 0 => by simp [hasK]
  | J + 1 => by
    simp only [hasK, Bool.or_eq_true, Bool.and_eq_true, beq_iff_eq, hasK_iff J]
    constructor
    · rintro (⟨k, h1, h2, h3⟩ | ⟨h2, h3⟩)
      · exact ⟨k, by omega, h2, h3⟩
      · exact ⟨J, by omega, h2, h3⟩
    · rintro ⟨k, h1, h2, h3⟩
      by_cases e : k = J
      · subst e; exact .inr ⟨h2, h3⟩
      · exact .inl ⟨k, by omega, h2, h3⟩
/-- What the prices are behind the holes below J. -/
structure Updd (us : Nat → Bool) (o : Nat → Nat) (least : Int) (u v far u' v' far' : Nat → Int) (J : Nat) : Prop where
  hu : ∀ b, u' b = u b + if hasK us o b J then least else 0
  hv : ∀ j, v' j = if j < J ∧ us j = true then v j - least else v j
  hf : ∀ j, far' j = if j < J ∧ us j = false then far j - least else far j
theorem QI.used_inj (h : QI C n m u v far o fr us hole) {k j : Nat} (hk : k ≤ n) (hj : 1 ≤ j) (hj2 : j ≤ n) (e : o k = o j) (hz : o j ≠ 0) : k = j := by
  by_cases h0 : k = 0
  · subst h0
    have := h.o0
    have := h.im j hj hj2
    omega
  · exact h.inj k j (by omega) hk hj hj2 e (by rw [e]; exact hz)
/-- One more hole is reached. -/
theorem QI.step {u' v' far' far2 : Nat → Int} {fr' : Nat → Nat} {least : Int} {next : Nat} (h : QI C n m u v far o fr us hole) (hC : ∀ b j, 1 ≤ b → b ≤ n → 1 ≤ j → j ≤ n → -1000 ≤ C b j ∧ C b j ≤ 1000) (hn7 : n ≤ 7) (ho : o hole ≠ 0)
    (hs : Scan n (upd us hole true) hole (fun j => C (o hole) j - u (o hole) - v j) far fr far' fr' least next (n + 1)) (hu : Updd (upd us hole true) o least u v far' u' v' far2 (n + 1)) :
    QI C n m u' v' far2 o fr' (upd us hole true) next ∧ 1 ≤ next := by
  obtain ⟨bv, bu, bf⟩ := h.bounds hC hn7
  have hlt := h.lt
  have hhn := h.hn
  have ho0 := h.o0
  obtain ⟨jf, hf1, hf2, hf3⟩ := h.free_ex
  have hU : ∀ j, upd us hole true j = true ↔ j = hole ∨ us j = true := fun j => by
    unfold upd
    by_cases e : j = hole
    · simp [e]
    · simp [e]
  have hUf : ∀ j, upd us hole true j = false ↔ j ≠ hole ∧ us j = false := fun j => by
    unfold upd
    by_cases e : j = hole
    · simp [e]
    · simp [e]
  have husn' : ∀ j, upd us hole true j = true → j ≤ n ∧ o j ≠ 0 := fun j hj => by
    rcases (hU j).1 hj with e | e
    · subst e; exact ⟨hhn, ho⟩
    · exact h.usn j e
  have hjfU : upd us hole true jf = false := by
    cases e : upd us hole true jf with
    | false => rfl
    | true => exact absurd hf3 (husn' jf e).2
  have hle : ∀ j, 1 ≤ j → j ≤ n → upd us hole true j = false → far' j ≤ C (o hole) j - u (o hole) - v j ∧ far' j ≤ far j := fun j h1 h2 h3 => by
    have := (hs.unu j h1 (by omega) h3).1
    rw [this]
    split <;> omega
  have hob : 1 ≤ o hole ∧ o hole ≤ n := by
    by_cases e : hole = 0
    · subst e; omega
    · have := h.im hole (by omega) hhn; omega
  have hdb : ∀ j, 1 ≤ j → j ≤ n → C (o hole) j - u (o hole) - v j ≤ 50000 := fun j h1 h2 => by
    have g1 := hC (o hole) j hob.1 hob.2 h1 h2
    have g2 := bu (o hole) hob.1
    have g3 := bv j h2
    omega
  have hnx : 1 ≤ next ∧ next ≤ n ∧ upd us hole true next = false ∧ least = far' next ∧ ∀ j, 1 ≤ j → j ≤ n → upd us hole true j = false → least ≤ far' j := by
    rcases hs.lst with ⟨_, _, h3⟩ | ⟨g1, g2, g3, g4, g5⟩
    · exfalso
      have g1 := h3 jf hf1 (by omega) hjfU
      have g2 := (hle jf hf1 hf2 hjfU).1
      have g3 := hdb jf hf1 hf2
      omega
    · exact ⟨g1, by omega, g3, g4, fun j q1 q2 q3 => g5 j q1 (by omega) q3⟩
  obtain ⟨hn1, hn2, hn3, hn4, hn5⟩ := hnx
  have hv' : ∀ j, j ≤ n → v' j = if upd us hole true j = true then v j - least else v j := fun j hj => by
    rw [hu.hv j]
    simp only [show j < n + 1 by omega, true_and]
  have hf' : ∀ j, j ≤ n → upd us hole true j = false → far2 j = far' j - least := fun j hj h1 => by
    rw [hu.hf j, if_pos ⟨by omega, h1⟩]
  have hKt : ∀ k, upd us hole true k = true → u' (o k) = u (o k) + least := fun k hk => by
    rw [hu.hu, if_pos ((hasK_iff _).2 ⟨k, by have := (husn' k hk).1; omega, hk, rfl⟩)]
  have hKf : ∀ b, (∀ k, upd us hole true k = true → o k ≠ b) → u' b = u b := fun b hb => by
    rw [hu.hu]
    cases e : hasK (upd us hole true) o b (n + 1) with
    | false => simp
    | true =>
      obtain ⟨k, _, h2, h3⟩ := (hasK_iff _).1 e
      exact absurd h3 (hb k h2)
  -- behind the first step nothing falls
  have hL0 : us 0 = true → QB C n m u v far o fr us hole ∧ 0 ≤ least := fun h0 => by
    rcases h.st with ⟨_, hA, _⟩ | hB
    · rw [hA 0] at h0; cases h0
    · refine ⟨hB, ?_⟩
      obtain ⟨q1, q2⟩ := (hUf next).1 hn3
      rw [hn4, (hs.unu next hn1 (by omega) hn3).1]
      have g1 := hB.pos next hn1 hn2 q2
      have g2 := h.feas (o hole) next hob.1 (h.im hole hB.h1 hhn) hn1 hn2
      split <;> omega
  have hFL : ∀ j k, 1 ≤ j → j ≤ n → upd us hole true j = false → upd us hole true k = true → far' j ≤ C (o k) j - u (o k) - v j := fun j k h1 h2 h3 h4 => by
    rcases (hU k).1 h4 with e | e
    · subst e; exact (hle j h1 h2 h3).1
    · rcases h.st with ⟨_, hA, _⟩ | hB
      · rw [hA k] at e; cases e
      · have g1 := hB.farL j k h1 h2 ((hUf j).1 h3).2 e
        have g2 := (hle j h1 h2 h3).2
        omega
  have hused : ∀ j, 1 ≤ j → upd us hole true j = true → 0 ≤ least := fun j hj h1 => by
    refine (hL0 ?_).2
    rcases h.st with ⟨e0, hA, _⟩ | hB
    · rcases (hU j).1 h1 with e | e
      · omega
      · rw [hA j] at e; cases e
    · exact hB.us0
  refine ⟨⟨hlt, ho0, h.im, h.inj, h.sur, fun b j h1 h2 h3 h4 => ?_, fun j h1 h2 h3 => ?_, fun j h1 h2 => ?_, fun j h1 h2 h3 => ?_, fun b hb => ?_, hn2, hn3, husn', .inr ⟨hn1, ?_, fun j h1 h2 => ?_, ?_, fun j h1 h2 h3 => ?_, fun j h1 h2 h3 => ?_, fun j h1 h2 h3 => ?_, fun j k h1 h2 h3 h4 => ?_, ?_, ?_⟩⟩, hn1⟩
  · -- feas
    have g0 := h.feas b j h1 h2 h3 h4
    rw [hv' j h4]
    by_cases hK : ∃ k, upd us hole true k = true ∧ o k = b
    · obtain ⟨k, hk, e⟩ := hK
      have g1 := hKt k hk
      rw [e] at g1
      rw [g1]
      cases hj : upd us hole true j with
      | true => simp; omega
      | false =>
        have g2 := hFL j k h3 h4 hj hk
        have g3 := hn5 j h3 h4 hj
        rw [e] at g2
        simp
        omega
    · rw [hKf b (fun k hk e => hK ⟨k, hk, e⟩)]
      cases hj : upd us hole true j with
      | true => have := hused j h3 hj; simp; omega
      | false => simp; omega
  · -- tight
    have g0 := h.tight j h1 h2 h3
    rw [hv' j h2]
    cases hj : upd us hole true j with
    | true => rw [hKt j hj]; simp; omega
    | false =>
      rw [hKf (o j) (fun k hk e => by
        have := h.used_inj (husn' k hk).1 h1 h2 e h3
        rw [this, hj] at hk; cases hk)]
      simp; omega
  · -- vneg
    have g0 := h.vneg j h1 h2
    rw [hv' j h2]
    cases hj : upd us hole true j with
    | true => have := hused j h1 hj; simp; omega
    | false => simp; omega
  · -- free
    rw [hv' j h2]
    cases hj : upd us hole true j with
    | true => exact absurd h3 (husn' j hj).2
    | false => simp; exact h.free j h1 h2 h3
  · -- u0
    rw [hKf b (fun k hk e => by
      have g1 := husn' k hk
      by_cases e0 : k = 0
      · subst e0; omega
      · have := h.im k (by omega) g1.1; omega)]
    exact h.u0 b hb
  · -- us0
    rcases h.st with ⟨e0, _⟩ | hB
    · exact (hU 0).2 (.inl e0.symm)
    · exact (hU 0).2 (.inr hB.us0)
  · -- feasI
    have hU0 : upd us hole true 0 = true := by
      rcases h.st with ⟨e0, _⟩ | hB
      · exact (hU 0).2 (.inl e0.symm)
      · exact (hU 0).2 (.inr hB.us0)
    have g1 := hKt 0 hU0
    rw [ho0] at g1
    rw [g1, hv' j h2]
    cases hj : upd us hole true j with
    | true =>
      rcases h.st with ⟨e0, hA, _⟩ | hB
      · rcases (hU j).1 hj with e | e
        · omega
        · rw [hA j] at e; cases e
      · have := hB.feasI j h1 h2; simp; omega
    | false =>
      have g2 := hFL j 0 h1 h2 hj hU0
      have g3 := hn5 j h1 h2 hj
      rw [ho0] at g2
      simp; omega
  · -- far0
    rw [hf' next hn2 hn3, hn4]; omega
  · -- pos
    have := hn5 j h1 h2 h3
    rw [hf' j h2 h3]; omega
  · -- frU
    rw [(hs.unu j h1 (by omega) h3).2]
    split
    · exact (hU hole).2 (.inl rfl)
    · rename_i hd
      rcases h.st with ⟨_, _, hF, _⟩ | hB
      · have := hF j
        have := hdb j h1 h2
        omega
      · exact (hU _).2 (.inr (hB.frU j h1 h2 ((hUf j).1 h3).2))
  · -- farE
    rw [hf' j h2 h3, hv' j h2]
    obtain ⟨g1, g2⟩ := hs.unu j h1 (by omega) h3
    rw [g1, g2]
    split
    · rw [hKt hole ((hU hole).2 (.inl rfl))]
      simp [h3]; omega
    · rename_i hd
      rcases h.st with ⟨_, _, hF, _⟩ | hB
      · have := hF j
        have := hdb j h1 h2
        omega
      · have g3 := hB.farE j h1 h2 ((hUf j).1 h3).2
        have g4 := hB.frU j h1 h2 ((hUf j).1 h3).2
        rw [hKt (fr j) ((hU _).2 (.inr g4))]
        simp [h3]; omega
  · -- farL
    rw [hf' j h2 h3, hv' j h2, hKt k h4]
    have := hFL j k h1 h2 h3 h4
    simp [h3]; omega
  · -- tree
    have hcnt := cntB_upd h.hu (n + 1)
    rw [if_pos (by omega)] at hcnt
    rcases h.st with ⟨e0, hA, _⟩ | hB
    · refine ⟨fun _ => 0, fun k hk => ⟨by show 0 < _; omega, fun h1 => ?_⟩⟩
      rcases (hU k).1 hk with e | e
      · omega
      · rw [hA k] at e; cases e
    · obtain ⟨rk, hrk⟩ := hB.tree
      obtain ⟨q1, q2⟩ : 1 ≤ hole ∧ us hole = false := ⟨hB.h1, h.hu⟩
      have hfrh := hB.frU hole q1 hhn q2
      have hfrne : ∀ k, us k = true → k ≠ hole := fun k hk e => by rw [e, q2] at hk; cases hk
      have hfr' : ∀ k, upd us hole true k = true → fr' k = fr k := fun k hk => (hs.oth k (.inr (.inr hk))).2
      refine ⟨upd rk hole (cntB us (n + 1)), fun k hk => ?_⟩
      rw [hfr' k hk, hcnt]
      rcases (hU k).1 hk with e | e
      · subst e
        rw [upd_eq, upd_ne (f := rk) (hfrne _ hfrh)]
        refine ⟨by omega, fun _ => ⟨(hU _).2 (.inr hfrh), (hrk _ hfrh).1, ?_⟩⟩
        have g1 := hB.farE k q1 hhn q2
        rw [hB.far0] at g1
        rw [hKt _ ((hU _).2 (.inr hfrh)), hv' k hhn, if_pos hk]
        omega
      · rw [upd_ne (f := rk) (hfrne k e)]
        obtain ⟨g1, g2⟩ := hrk k e
        refine ⟨by omega, fun h1 => ?_⟩
        obtain ⟨g3, g4, g5⟩ := g2 h1
        rw [upd_ne (f := rk) (hfrne _ g3)]
        refine ⟨(hU _).2 (.inr g3), g4, ?_⟩
        rw [hKt _ ((hU _).2 (.inr g3)), hv' k (h.usn k e).1, if_pos hk]
        omega
  · -- sum
    have hU0 : upd us hole true 0 = true := by
      rcases h.st with ⟨e0, _⟩ | hB
      · exact (hU 0).2 (.inl e0.symm)
      · exact (hU 0).2 (.inr hB.us0)
    have g1 := hKt 0 hU0
    rw [ho0] at g1
    have g2 := hv' 0 (Nat.zero_le _)
    rw [if_pos hU0] at g2
    rcases h.st with ⟨e0, hA, hF, hu0, hv0, hb1, hb2⟩ | hB
    · refine ⟨0, v 0, Int.le_refl _, ?_, fun j h1 h2 => ?_, by rw [g1, g2]; omega, hb1, hb2⟩
      · have q1 := (hs.unu next hn1 (by omega) hn3).1
        have q2 := hF next
        have q3 := hdb next hn1 hn2
        rw [if_pos (by omega)] at q1
        have q4 := hC (m + 1) next (by omega) (by omega) hn1 hn2
        have q5 := h.vneg next hn1 hn2
        have q6 : o hole = m + 1 := by rw [e0]; exact ho0
        rw [q6] at q1
        rw [g1, hu0, hn4, q1]
        omega
      · have q1 := hv0 j h1 h2
        rw [hv' j h2]
        cases hj : upd us hole true j with
        | true =>
          rcases (hU j).1 hj with e | e
          · omega
          · rw [hA j] at e; cases e
        | false => simp; omega
    · have hl := (hL0 hB.us0).2
      obtain ⟨S, V, hS, hu1, hv1, hV, hV1, hV2⟩ := hB.sum
      refine ⟨S + least, V, by omega, by rw [g1]; omega, fun j h1 h2 => ?_, by rw [g1, g2]; omega, hV1, hV2⟩
      have q1 := hv1 j h1 h2
      rw [hv' j h2]
      cases hj : upd us hole true j with
      | true => simp; omega
      | false => simp; omega
/-- The way back: the holes on it are handed on. -/
structure AU (C : Nat → Nat → Int) (n m : Nat) (u v : Nat → Int) (o0 fr : Nat → Nat) (us : Nat → Bool) (rk : Nat → Nat) (T : Nat) (oc : Nat → Nat) (hole : Nat) : Prop where
  hn : hole ≤ n
  im : ∀ j, j ≤ n → oc j ≤ m + 1
  inj : ∀ j k, j ≤ n → k ≤ n → j ≠ hole → k ≠ hole → oc j = oc k → oc j ≠ 0 → j = k
  sur : ∀ b, 1 ≤ b → b ≤ m + 1 → ∃ j, j ≤ n ∧ j ≠ hole ∧ oc j = b
  tight : ∀ j, 1 ≤ j → j ≤ n → j ≠ hole → oc j ≠ 0 → u (oc j) + v j = C (oc j) j
  free : ∀ j, 1 ≤ j → j ≤ n → j ≠ hole → oc j = 0 → v j = 0
  chain : 1 ≤ hole → us (fr hole) = true ∧ rk (fr hole) < (if us hole then rk hole else T) ∧ u (o0 (fr hole)) + v hole = C (o0 (fr hole)) hole ∧ ∀ k, us k = true → rk k ≤ rk (fr hole) → oc k = o0 k
/-- How far the way back still is. -/
def muA (us : Nat → Bool) (rk : Nat → Nat) (T hole : Nat) : Nat := if us hole then rk hole else T
theorem QI.back (h : QI C n m u v far o fr us hole) (h0 : o hole = 0) : ∃ rk, (∀ k, us k = true → rk k < cntB us (n + 1) ∧ (1 ≤ k → us (fr k) = true ∧ rk (fr k) < rk k ∧ u (o (fr k)) + v k = C (o (fr k)) k)) ∧ AU C n m u v o fr us rk (cntB us (n + 1)) o hole := by
  have hh : 1 ≤ hole := by
    rcases Nat.eq_zero_or_pos hole with e | e
    · subst e; rw [h.o0] at h0; omega
    · exact e
  rcases h.st with ⟨e, _⟩ | hB
  · omega
  · obtain ⟨rk, hrk⟩ := hB.tree
    have g1 := hB.frU hole hh h.hn h.hu
    have g2 := hB.farE hole hh h.hn h.hu
    rw [hB.far0] at g2
    have ho0 := h.o0
    have hlt := h.lt
    refine ⟨rk, hrk, h.hn, fun j hj => ?_, fun j k hj hk h1 h2 e hz => ?_, fun b h1 h2 => ?_, fun j h1 h2 _ h3 => h.tight j h1 h2 h3, fun j h1 h2 _ h3 => h.free j h1 h2 h3, fun _ => ⟨g1, ?_, by omega, fun k _ _ => rfl⟩⟩
    · by_cases e : j = 0
      · subst e; omega
      · have := h.im j (by omega) hj; omega
    · by_cases e0 : k = 0
      · subst e0
        by_cases e1 : j = 0
        · exact e1
        · have := h.im j (by omega) hj; omega
      · exact h.used_inj hj (by omega) hk e (by rw [← e]; exact hz)
    · by_cases e : b = m + 1
      · exact ⟨0, Nat.zero_le _, by omega, by rw [ho0, e]⟩
      · obtain ⟨j, g3, g4, g5⟩ := h.sur b h1 (by omega)
        exact ⟨j, g4, fun e => by rw [e, h0] at g5; omega, g5⟩
    · rw [h.hu]
      simp
      exact (hrk _ g1).1
theorem AU.step {o0 oc : Nat → Nat} {rk : Nat → Nat} {T : Nat} (hrk : ∀ k, us k = true → rk k < T ∧ (1 ≤ k → us (fr k) = true ∧ rk (fr k) < rk k ∧ u (o0 (fr k)) + v k = C (o0 (fr k)) k)) (husn : ∀ j, us j = true → j ≤ n ∧ o0 j ≠ 0) (h : AU C n m u v o0 fr us rk T oc hole) (h1 : 1 ≤ hole) :
    AU C n m u v o0 fr us rk T (upd oc hole (oc (fr hole))) (fr hole) ∧ muA us rk T (fr hole) < muA us rk T hole := by
  obtain ⟨c1, c2, c3, c4⟩ := h.chain h1
  have hoc := c4 (fr hole) c1 (Nat.le_refl _)
  obtain ⟨f1, f2⟩ := husn _ c1
  have hne : fr hole ≠ hole := fun e => by
    rw [e] at c1 c2
    rw [c1] at c2
    simp at c2
  have hhn := h.hn
  refine ⟨⟨f1, fun j hj => ?_, fun j k hj hk q1 q2 e hz => ?_, fun b g1 g2 => ?_, fun j g1 g2 g3 g4 => ?_, fun j g1 g2 g3 g4 => ?_, fun g1 => ?_⟩, ?_⟩
  · unfold upd
    split
    · exact h.im _ f1
    · exact h.im j hj
  · unfold upd at e hz
    by_cases e1 : j = hole <;> by_cases e2 : k = hole <;> simp only [e1, e2, if_true, if_false] at e hz
    · rw [e1, e2]
    · exact absurd (h.inj (fr hole) k f1 hk hne e2 e hz).symm q2
    · exact absurd (h.inj j (fr hole) hj f1 e1 hne e hz) q1
    · exact h.inj j k hj hk e1 e2 e hz
  · obtain ⟨j, g3, g4, g5⟩ := h.sur b g1 g2
    by_cases e : j = fr hole
    · exact ⟨hole, hhn, fun e => hne e.symm, by rw [upd_eq, ← e]; exact g5⟩
    · exact ⟨j, g3, e, by rw [upd_ne g4]; exact g5⟩
  · by_cases e : j = hole
    · subst e; rw [upd_eq, hoc]; exact c3
    · rw [upd_ne e] at g4 ⊢; exact h.tight j g1 g2 e g4
  · by_cases e : j = hole
    · subst e; rw [upd_eq, hoc] at g4; exact absurd g4 f2
    · rw [upd_ne e] at g4; exact h.free j g1 g2 e g4
  · obtain ⟨r1, r2⟩ := hrk _ c1
    obtain ⟨r3, r4, r5⟩ := r2 g1
    refine ⟨r3, by rw [c1]; exact r4, r5, fun k hk hle => ?_⟩
    have hkne : k ≠ hole := fun e => by
      subst e
      rw [hk] at c2
      simp at c2
      omega
    rw [upd_ne hkne]
    exact c4 k hk (by omega)
  · unfold muA
    rw [c1]
    exact c2
/-- One more button is in. -/
theorem AU.done {o0 oc : Nat → Nat} {rk : Nat → Nat} {T : Nat} (hq : QI C n m u v far o fr us hole) (hC : ∀ b j, 1 ≤ b → b ≤ n → 1 ≤ j → j ≤ n → -1000 ≤ C b j ∧ C b j ≤ 1000) (h0 : o hole = 0) (h : AU C n m u v o0 fr us rk T oc 0) : PI C n (m + 1) u v oc := by
  have hlt := hq.lt
  obtain ⟨jf, hf1, hf2, hf3⟩ := hq.free_ex
  have hvf := hq.free jf hf1 hf2 hf3
  rcases hq.st with ⟨e, _⟩ | hB
  · rw [e, hq.o0] at h0; omega
  · obtain ⟨S, V, hS, hu1, hv1, hV, hV1, hV2⟩ := hB.sum
    have g1 := hB.feasI jf hf1 hf2
    have g2 := hC (m + 1) jf (by omega) (by omega) hf1 hf2
    refine ⟨by omega, fun j h1 h2 => h.im j h2, fun j k h1 h2 h3 h4 e hz => h.inj j k h2 h4 (by omega) (by omega) e hz, fun b h1 h2 => ?_, fun b j h1 h2 h3 h4 => ?_, fun j h1 h2 h3 => h.tight j h1 h2 (by omega) h3, hq.vneg, fun j h1 h2 => by have := hv1 j h1 h2; omega, fun j h1 h2 h3 => h.free j h1 h2 (by omega) h3, hq.u0, by omega⟩
    · obtain ⟨j, q1, q2, q3⟩ := h.sur b h1 h2
      exact ⟨j, by omega, q1, q3⟩
    · by_cases e : b = m + 1
      · subst e; exact hB.feasI j h3 h4
      · exact hq.feas b j h1 (by omega) h3 h4
end
end Go.Proofs.Ytehjmakiljhjdaa.HG
/- Arrays of eight, as functions. -/
namespace Go.Proofs.Ytehjmakiljhjdaa.VW
open Go Go.RowKit
open Go.Proofs.Ytehjmakiljhjdaa.HG (upd upd_eq upd_ne)
def rng (m : Nat) (f : Nat → Value) : List Value := (List.range m).map f
theorem rng_get {m : Nat} {f : Nat → Value} {i : Nat} (h : i < m) : (rng m f).toArray[i]? = some (f i) := by simp [rng, h]
theorem rng_set {m : Nat} {f : Nat → Value} {i : Nat} {x : Value} (h : i < m) : (rng m f).toArray.setIfInBounds i x = (rng m (upd f i x)).toArray := by
  apply Array.toList_inj.1
  apply List.ext_getElem
  · simp [rng]
  · intro j h1 h2
    simp only [rng, Array.toList_setIfInBounds, List.length_map, List.length_range] at h2
    simp only [rng, Array.toList_setIfInBounds, List.getElem_set, List.getElem_map, List.getElem_range]
    by_cases e : i = j
    · subst e; rw [if_pos rfl, upd_eq]
    · rw [if_neg e, upd_ne (fun e2 => e e2.symm)]
/-- Eight ints. -/
def AI (w : World) (b t : Nat) (f : Nat → Int) : Prop := Blk w b (rng 8 fun j => .int .i64 (f j)).toArray t
/-- Eight numbers. -/
def AN (w : World) (b t : Nat) (f : Nat → Nat) : Prop := Blk w b (rng 8 fun j => .int .i64 (f j : Int)).toArray t
/-- Eight bools. -/
def AB (w : World) (b t : Nat) (f : Nat → Bool) : Prop := Blk w b (rng 8 fun j => .bool (f j)).toArray t
/-- Two times eight ints. -/
def PV (w : World) (b : Nat) (u v : Nat → Int) : Prop := Blk w b (rng 16 fun j => .int .i64 (if j < 8 then u j else v (j - 8))).toArray 86
theorem AI.kp {w w' : World} {b t : Nat} {f : Nat → Int} {S : Nat → Prop} (h : AI w b t f) (k : Kp S w w') (hs : ¬ S b) : AI w' b t f := Blk.kp h k hs
theorem AN.kp {w w' : World} {b t : Nat} {f : Nat → Nat} {S : Nat → Prop} (h : AN w b t f) (k : Kp S w w') (hs : ¬ S b) : AN w' b t f := Blk.kp h k hs
theorem AB.kp {w w' : World} {b t : Nat} {f : Nat → Bool} {S : Nat → Prop} (h : AB w b t f) (k : Kp S w w') (hs : ¬ S b) : AB w' b t f := Blk.kp h k hs
theorem PV.kp {w w' : World} {b : Nat} {u v : Nat → Int} {S : Nat → Prop} (h : PV w b u v) (k : Kp S w w') (hs : ¬ S b) : PV w' b u v := Blk.kp h k hs
theorem rng_congr {m : Nat} {f g : Nat → Value} (h : ∀ j, j < m → f j = g j) : rng m f = rng m g := List.map_congr_left fun j hj => h j (List.mem_range.1 hj)
theorem AI.congr {w : World} {b t : Nat} {f g : Nat → Int} (h : AI w b t f) (e : ∀ j, j < 8 → f j = g j) : AI w b t g := by
  unfold AI at *
  rwa [rng_congr (g := fun j => .int .i64 (f j)) (fun j hj => by rw [e j hj])]
section
variable {P : Program} [hT : Tab P] {n : Nat} {ds : List Deferred} {Φ : Post} {k : List It} {ρ : E} {w : World} {all : Array Oper} {l : List Oper} {md : Option (List Oper)} {s : Nat} {F : World → Prop} {π : List (Nat × Nat)} {L : List Bool}
theorem EV.rdA {o : Oper} {t b q t' m : Nat} {x : Operand} {f : Nat → Value} (ho : o.op = .load t x) (ha : tyAgg P t = some false) (hx : ev ρ x = some (.pointer (some ((⟨b, 0, none⟩ : Addr).add q)))) (hb : Blk w b (rng m f).toArray t') (hq : q < m) : EV P n ρ w o (f q) :=
  EV.ld ho ha hx (by rw [add_lit, Nat.zero_add]; exact hb.cell (rng_get hq))
theorem rdG {o1 o2 : Oper} {d1 d2 t e t' t2 b q i m len : Nat} {x y : Operand} {f : Nat → Value} {w0 : World} {c1 c2 : Bool} (h1 : o1.op = .indexAddr t x y) (hd1 : o1.dst = some d1) (hg1 : gdB all ρ o1.guard = some c1) (hc1 : c1 = true) (h2 : o2.op = .load t' (.tmp d1)) (hd2 : o2.dst = some d2) (hg2 : ∀ p, gdB all ((d1, .pointer p) :: ρ) o2.guard = some c2) (hc2 : c2 = true)
    (ht : tyD P t = some (.array len e)) (hs : tyS P e = some 1) (ha : tyAgg P t' = some false) (hx : ev ρ x = some (.pointer (some ⟨b, q, none⟩))) (hy : ev ρ y = some (.int .i64 (i : Int))) (hb : Blk w0 b (rng m f).toArray t2) (hbel : Below w0.heap.size w0 w) (hi : i < len) (hm : q + i < m)
    (kk : ∀ p, Ops md P n ds all k Φ l ((d2, f (q + i)) :: (d1, p) :: ρ) w) : Ops md P n ds all k Φ (o1 :: o2 :: l) ρ w := by
  have hb' := hb.kp (Kp.of_below (S := fun _ => False) hbel) (fun e => e)
  refine Ops.evG hd1 hg1 hc1 (EV.idxP h1 ht hs hx hy (by omega) (by omega)) ?_
  have e : (⟨b, q, none⟩ : Addr).add ((i : Int).toNat * 1) = (⟨b, 0, none⟩ : Addr).add (q + i) := by rw [add_lit, add_lit]; simp
  rw [e]
  exact Ops.evG hd2 (hg2 _) hc2 (EV.rdA h2 ha (ev_top _ _ _) hb' hm) (kk _)
theorem rdGx {i1 i2 d1 d2 t e t' t2 b q i m len : Nat} {o1 o2 : Oper} {x y : Operand} {f : Nat → Value} {w0 : World} {c1 c2 : Bool} (e1 : all[i1]? = some o1) (h1 : o1.op = .indexAddr t x y) (hd1 : o1.dst = some d1) (hg1 : gdB all ρ o1.guard = some c1) (hc1 : c1 = true) (e2 : all[i2]? = some o2) (h2 : o2.op = .load t' (.tmp d1)) (hd2 : o2.dst = some d2) (hg2 : ∀ p, gdB all ((d1, .pointer p) :: ρ) o2.guard = some c2) (hc2 : c2 = true)
    (ht : tyD P t = some (.array len e)) (hs : tyS P e = some 1) (ha : tyAgg P t' = some false) (hx : ev ρ x = some (.pointer (some ⟨b, q, none⟩))) (hy : ev ρ y = some (.int .i64 (i : Int))) (hb : Blk w0 b (rng m f).toArray t2) (hF : ∀ w, F w → Below w0.heap.size w0 w) (hi : i < len) (hm : q + i < m)
    (kk : ∀ p, OrdA P n ds all k Φ s F π ((L.set i1 true).set i2 true) ((d2, f (q + i)) :: (d1, p) :: ρ)) : OrdA P n ds all k Φ s F ((i1, 1) :: (i2, 2) :: π) L ρ := by
  refine OrdA.pure e1 hd1 hg1 hc1 (fun w => EV.idxP h1 ht hs hx hy (by omega) (by omega)) ?_
  have e : (⟨b, q, none⟩ : Addr).add ((i : Int).toNat * 1) = (⟨b, 0, none⟩ : Addr).add (q + i) := by rw [add_lit, add_lit]; simp
  rw [e]
  exact OrdA.read e2 hd2 (hg2 _) hc2 (fun w hw => EV.rdA h2 ha (ev_top _ _ _) (hb.kp (Kp.of_below (S := fun _ => False) (hF w hw)) (fun e => e)) hm) (kk _)
theorem wrG {o1 o2 : Oper} {d1 t e t' t2 b q i m len : Nat} {x y z : Operand} {f : Nat → Value} {v : Value} (h1 : o1.op = .indexAddr t x y) (hd1 : o1.dst = some d1) (hg1 : o1.guard = none) (h2 : o2.op = .store t' (.tmp d1) z) (hd2 : o2.dst = none) (hg2 : o2.guard = none)
    (ht : tyD P t = some (.array len e)) (hs : tyS P e = some 1) (hs' : tyS P t' = some 1) (hx : ev ρ x = some (.pointer (some ⟨b, q, none⟩))) (hy : ev ρ y = some (.int .i64 (i : Int))) (hz : ∀ p, ev ((d1, .pointer p) :: ρ) z = some v) (hv : v.oneCell' = true) (hb : Blk w b (rng m f).toArray t2) (hi : i < len) (hm : q + i < m)
    (kk : ∀ w' p, Blk w' b (rng m (upd f (q + i) v)).toArray t2 → Kp (fun j => j = b) w w' → w'.heap.size = w.heap.size → Ops none P n ds all k Φ l ((d1, p) :: ρ) w') : Ops none P n ds all k Φ (o1 :: o2 :: l) ρ w := by
  refine Ops.evG hd1 (by rw [hg1]; rfl) rfl (EV.idxP h1 ht hs hx hy (by omega) (by omega)) ?_
  have e : (⟨b, q, none⟩ : Addr).add ((i : Int).toNat * 1) = ⟨b, q + i, none⟩ := by rw [add_lit]; simp
  rw [e]
  refine Ops.st h2 hd2 hg2 hs' (ev_top _ _ _) (hz _) hv hb (by simp [rng]; omega) (fun w' hu => kk w' _ ?_ hu.kp hu.size)
  rw [← rng_set hm]
  exact hu.blk
-- the short forms
theorem z_AI {o1 o2 : Oper} {d1 d2 t e t' t2 b i len : Nat} {x y : Operand} {f : Nat → Int} {w0 : World} {c1 c2 : Bool} (h1 : o1.op = .indexAddr t x y := by exact rfl) (hd1 : o1.dst = some d1 := by exact rfl) (hg1 : gdB all ρ o1.guard = some c1 := by exact rfl) (hc1 : c1 = true := by exact rfl) (h2 : o2.op = .load t' (.tmp d1) := by exact rfl) (hd2 : o2.dst = some d2 := by exact rfl) (hg2 : ∀ p, gdB all ((d1, .pointer p) :: ρ) o2.guard = some c2 := by exact fun _ => rfl) (hc2 : c2 = true := by exact rfl)
    (ht : tyD P t = some (.array len e) := by exact rfl) (hs : tyS P e = some 1 := by exact rfl) (ha : tyAgg P t' = some false := by exact rfl) (hx : ev ρ x = some (.pointer (some ⟨b, 0, none⟩)) := by exact rfl) (hy : ev ρ y = some (.int .i64 (i : Int)) := by exact rfl) (hb : AI w0 b t2 f := by assumption) (hbel : Below w0.heap.size w0 w := by first | exact Below.refl _ _ | assumption) (hi : i < len := by omega) (hm : i < 8 := by omega)
    (kk : ∀ p, Ops md P n ds all k Φ l ((d2, .int .i64 (f i)) :: (d1, p) :: ρ) w) : Ops md P n ds all k Φ (o1 :: o2 :: l) ρ w :=
  rdG h1 hd1 hg1 hc1 h2 hd2 hg2 hc2 ht hs ha hx hy hb hbel hi (by omega) (fun p => by have := kk p; rwa [← Nat.zero_add i] at this)
theorem z_AN {o1 o2 : Oper} {d1 d2 t e t' t2 b i len : Nat} {x y : Operand} {f : Nat → Nat} {w0 : World} {c1 c2 : Bool} (h1 : o1.op = .indexAddr t x y := by exact rfl) (hd1 : o1.dst = some d1 := by exact rfl) (hg1 : gdB all ρ o1.guard = some c1 := by exact rfl) (hc1 : c1 = true := by exact rfl) (h2 : o2.op = .load t' (.tmp d1) := by exact rfl) (hd2 : o2.dst = some d2 := by exact rfl) (hg2 : ∀ p, gdB all ((d1, .pointer p) :: ρ) o2.guard = some c2 := by exact fun _ => rfl) (hc2 : c2 = true := by exact rfl)
    (ht : tyD P t = some (.array len e) := by exact rfl) (hs : tyS P e = some 1 := by exact rfl) (ha : tyAgg P t' = some false := by exact rfl) (hx : ev ρ x = some (.pointer (some ⟨b, 0, none⟩)) := by exact rfl) (hy : ev ρ y = some (.int .i64 (i : Int)) := by exact rfl) (hb : AN w0 b t2 f := by assumption) (hbel : Below w0.heap.size w0 w := by first | exact Below.refl _ _ | assumption) (hi : i < len := by omega) (hm : i < 8 := by omega)
    (kk : ∀ p, Ops md P n ds all k Φ l ((d2, .int .i64 (f i : Int)) :: (d1, p) :: ρ) w) : Ops md P n ds all k Φ (o1 :: o2 :: l) ρ w :=
  rdG h1 hd1 hg1 hc1 h2 hd2 hg2 hc2 ht hs ha hx hy hb hbel hi (by omega) (fun p => by have := kk p; rwa [← Nat.zero_add i] at this)
theorem z_AB {o1 o2 : Oper} {d1 d2 t e t' t2 b i len : Nat} {x y : Operand} {f : Nat → Bool} {w0 : World} {c1 c2 : Bool} (h1 : o1.op = .indexAddr t x y := by exact rfl) (hd1 : o1.dst = some d1 := by exact rfl) (hg1 : gdB all ρ o1.guard = some c1 := by exact rfl) (hc1 : c1 = true := by exact rfl) (h2 : o2.op = .load t' (.tmp d1) := by exact rfl) (hd2 : o2.dst = some d2 := by exact rfl) (hg2 : ∀ p, gdB all ((d1, .pointer p) :: ρ) o2.guard = some c2 := by exact fun _ => rfl) (hc2 : c2 = true := by exact rfl)
    (ht : tyD P t = some (.array len e) := by exact rfl) (hs : tyS P e = some 1 := by exact rfl) (ha : tyAgg P t' = some false := by exact rfl) (hx : ev ρ x = some (.pointer (some ⟨b, 0, none⟩)) := by exact rfl) (hy : ev ρ y = some (.int .i64 (i : Int)) := by exact rfl) (hb : AB w0 b t2 f := by assumption) (hbel : Below w0.heap.size w0 w := by first | exact Below.refl _ _ | assumption) (hi : i < len := by omega) (hm : i < 8 := by omega)
    (kk : ∀ p, Ops md P n ds all k Φ l ((d2, .bool (f i)) :: (d1, p) :: ρ) w) : Ops md P n ds all k Φ (o1 :: o2 :: l) ρ w :=
  rdG h1 hd1 hg1 hc1 h2 hd2 hg2 hc2 ht hs ha hx hy hb hbel hi (by omega) (fun p => by have := kk p; rwa [← Nat.zero_add i] at this)
theorem z_PU {o1 o2 : Oper} {d1 d2 t e t' b i len : Nat} {x y : Operand} {u v : Nat → Int} {w0 : World} {c1 c2 : Bool} (h1 : o1.op = .indexAddr t x y := by exact rfl) (hd1 : o1.dst = some d1 := by exact rfl) (hg1 : gdB all ρ o1.guard = some c1 := by exact rfl) (hc1 : c1 = true := by exact rfl) (h2 : o2.op = .load t' (.tmp d1) := by exact rfl) (hd2 : o2.dst = some d2 := by exact rfl) (hg2 : ∀ p, gdB all ((d1, .pointer p) :: ρ) o2.guard = some c2 := by exact fun _ => rfl) (hc2 : c2 = true := by exact rfl)
    (ht : tyD P t = some (.array len e) := by exact rfl) (hs : tyS P e = some 1 := by exact rfl) (ha : tyAgg P t' = some false := by exact rfl) (hx : ev ρ x = some (.pointer (some ⟨b, 0, none⟩)) := by exact rfl) (hy : ev ρ y = some (.int .i64 (i : Int)) := by exact rfl) (hb : PV w0 b u v := by assumption) (hbel : Below w0.heap.size w0 w := by first | exact Below.refl _ _ | assumption) (hi : i < len := by omega) (hm : i < 8 := by omega)
    (kk : ∀ p, Ops md P n ds all k Φ l ((d2, .int .i64 (u i)) :: (d1, p) :: ρ) w) : Ops md P n ds all k Φ (o1 :: o2 :: l) ρ w :=
  rdG h1 hd1 hg1 hc1 h2 hd2 hg2 hc2 ht hs ha hx hy hb hbel hi (by omega) (fun p => by have := kk p; simp only [Nat.zero_add, hm, if_true]; exact this)
theorem z_PW {o1 o2 : Oper} {d1 d2 t e t' b i len : Nat} {x y : Operand} {u v : Nat → Int} {w0 : World} {c1 c2 : Bool} (h1 : o1.op = .indexAddr t x y := by exact rfl) (hd1 : o1.dst = some d1 := by exact rfl) (hg1 : gdB all ρ o1.guard = some c1 := by exact rfl) (hc1 : c1 = true := by exact rfl) (h2 : o2.op = .load t' (.tmp d1) := by exact rfl) (hd2 : o2.dst = some d2 := by exact rfl) (hg2 : ∀ p, gdB all ((d1, .pointer p) :: ρ) o2.guard = some c2 := by exact fun _ => rfl) (hc2 : c2 = true := by exact rfl)
    (ht : tyD P t = some (.array len e) := by exact rfl) (hs : tyS P e = some 1 := by exact rfl) (ha : tyAgg P t' = some false := by exact rfl) (hx : ev ρ x = some (.pointer (some ⟨b, 8, none⟩)) := by exact rfl) (hy : ev ρ y = some (.int .i64 (i : Int)) := by exact rfl) (hb : PV w0 b u v := by assumption) (hbel : Below w0.heap.size w0 w := by first | exact Below.refl _ _ | assumption) (hi : i < len := by omega) (hm : i < 8 := by omega)
    (kk : ∀ p, Ops md P n ds all k Φ l ((d2, .int .i64 (v i)) :: (d1, p) :: ρ) w) : Ops md P n ds all k Φ (o1 :: o2 :: l) ρ w :=
  rdG h1 hd1 hg1 hc1 h2 hd2 hg2 hc2 ht hs ha hx hy hb hbel hi (by omega) (fun p => by have := kk p; simp only [show ¬ 8 + i < 8 by omega, if_false, Nat.add_sub_cancel_left]; exact this)
theorem x_PU {i1 i2 d1 d2 t e t' b i len : Nat} {o1 o2 : Oper} {x y : Operand} {u v : Nat → Int} {w0 : World} {c1 c2 : Bool} (e1 : all[i1]? = some o1 := by exact rfl) (h1 : o1.op = .indexAddr t x y := by exact rfl) (hd1 : o1.dst = some d1 := by exact rfl) (hg1 : gdB all ρ o1.guard = some c1 := by exact rfl) (hc1 : c1 = true := by exact rfl) (e2 : all[i2]? = some o2 := by exact rfl) (h2 : o2.op = .load t' (.tmp d1) := by exact rfl) (hd2 : o2.dst = some d2 := by exact rfl) (hg2 : ∀ p, gdB all ((d1, .pointer p) :: ρ) o2.guard = some c2 := by exact fun _ => rfl) (hc2 : c2 = true := by exact rfl)
    (ht : tyD P t = some (.array len e) := by exact rfl) (hs : tyS P e = some 1 := by exact rfl) (ha : tyAgg P t' = some false := by exact rfl) (hx : ev ρ x = some (.pointer (some ⟨b, 0, none⟩)) := by exact rfl) (hy : ev ρ y = some (.int .i64 (i : Int)) := by exact rfl) (hb : PV w0 b u v := by assumption) (hF : ∀ w, F w → Below w0.heap.size w0 w := by first | exact fun _ h => h | (intro _ h; exact Below.via (by assumption) h)) (hi : i < len := by omega) (hm : i < 8 := by omega)
    (kk : ∀ p, OrdA P n ds all k Φ s F π ((L.set i1 true).set i2 true) ((d2, .int .i64 (u i)) :: (d1, p) :: ρ)) : OrdA P n ds all k Φ s F ((i1, 1) :: (i2, 2) :: π) L ρ :=
  rdGx e1 h1 hd1 hg1 hc1 e2 h2 hd2 hg2 hc2 ht hs ha hx hy hb hF hi (by omega) (fun p => by have := kk p; simp only [Nat.zero_add, hm, if_true]; exact this)
theorem x_PW {i1 i2 d1 d2 t e t' b i len : Nat} {o1 o2 : Oper} {x y : Operand} {u v : Nat → Int} {w0 : World} {c1 c2 : Bool} (e1 : all[i1]? = some o1 := by exact rfl) (h1 : o1.op = .indexAddr t x y := by exact rfl) (hd1 : o1.dst = some d1 := by exact rfl) (hg1 : gdB all ρ o1.guard = some c1 := by exact rfl) (hc1 : c1 = true := by exact rfl) (e2 : all[i2]? = some o2 := by exact rfl) (h2 : o2.op = .load t' (.tmp d1) := by exact rfl) (hd2 : o2.dst = some d2 := by exact rfl) (hg2 : ∀ p, gdB all ((d1, .pointer p) :: ρ) o2.guard = some c2 := by exact fun _ => rfl) (hc2 : c2 = true := by exact rfl)
    (ht : tyD P t = some (.array len e) := by exact rfl) (hs : tyS P e = some 1 := by exact rfl) (ha : tyAgg P t' = some false := by exact rfl) (hx : ev ρ x = some (.pointer (some ⟨b, 8, none⟩)) := by exact rfl) (hy : ev ρ y = some (.int .i64 (i : Int)) := by exact rfl) (hb : PV w0 b u v := by assumption) (hF : ∀ w, F w → Below w0.heap.size w0 w := by first | exact fun _ h => h | (intro _ h; exact Below.via (by assumption) h)) (hi : i < len := by omega) (hm : i < 8 := by omega)
    (kk : ∀ p, OrdA P n ds all k Φ s F π ((L.set i1 true).set i2 true) ((d2, .int .i64 (v i)) :: (d1, p) :: ρ)) : OrdA P n ds all k Φ s F ((i1, 1) :: (i2, 2) :: π) L ρ :=
  rdGx e1 h1 hd1 hg1 hc1 e2 h2 hd2 hg2 hc2 ht hs ha hx hy hb hF hi (by omega) (fun p => by have := kk p; simp only [show ¬ 8 + i < 8 by omega, if_false, Nat.add_sub_cancel_left]; exact this)
theorem w_AI {o1 o2 : Oper} {d1 t e t' t2 b i len : Nat} {x y z : Operand} {f : Nat → Int} {v : Int} (hb : AI w b t2 f) (kk : ∀ w' p, AI w' b t2 (upd f i v) → Kp (fun j => j = b) w w' → w'.heap.size = w.heap.size → Ops none P n ds all k Φ l ((d1, p) :: ρ) w') (h1 : o1.op = .indexAddr t x y := by exact rfl) (hd1 : o1.dst = some d1 := by exact rfl) (hg1 : o1.guard = none := by exact rfl) (h2 : o2.op = .store t' (.tmp d1) z := by exact rfl) (hd2 : o2.dst = none := by exact rfl) (hg2 : o2.guard = none := by exact rfl)
    (ht : tyD P t = some (.array len e) := by exact rfl) (hs : tyS P e = some 1 := by exact rfl) (hs' : tyS P t' = some 1 := by exact rfl) (hx : ev ρ x = some (.pointer (some ⟨b, 0, none⟩)) := by exact rfl) (hy : ev ρ y = some (.int .i64 (i : Int)) := by exact rfl) (hz : ∀ p, ev ((d1, .pointer p) :: ρ) z = some (.int .i64 v) := by exact fun _ => rfl) (hi : i < len := by omega) (hm : i < 8 := by omega) : Ops none P n ds all k Φ (o1 :: o2 :: l) ρ w :=
  wrG h1 hd1 hg1 h2 hd2 hg2 ht hs hs' hx hy hz rfl hb hi (by omega) (fun w' p h hk hs => kk w' p (by
    unfold AI
    rw [rng_congr (g := upd (fun j => .int .i64 (f j)) (0 + i) (.int .i64 v)) (fun j hj => by unfold upd; rw [Nat.zero_add]; split <;> rfl)]
    exact h) hk hs)
theorem w_AN {o1 o2 : Oper} {d1 t e t' t2 b i len : Nat} {x y z : Operand} {f : Nat → Nat} {v : Nat} (hb : AN w b t2 f) (kk : ∀ w' p, AN w' b t2 (upd f i v) → Kp (fun j => j = b) w w' → w'.heap.size = w.heap.size → Ops none P n ds all k Φ l ((d1, p) :: ρ) w') (h1 : o1.op = .indexAddr t x y := by exact rfl) (hd1 : o1.dst = some d1 := by exact rfl) (hg1 : o1.guard = none := by exact rfl) (h2 : o2.op = .store t' (.tmp d1) z := by exact rfl) (hd2 : o2.dst = none := by exact rfl) (hg2 : o2.guard = none := by exact rfl)
    (ht : tyD P t = some (.array len e) := by exact rfl) (hs : tyS P e = some 1 := by exact rfl) (hs' : tyS P t' = some 1 := by exact rfl) (hx : ev ρ x = some (.pointer (some ⟨b, 0, none⟩)) := by exact rfl) (hy : ev ρ y = some (.int .i64 (i : Int)) := by exact rfl) (hz : ∀ p, ev ((d1, .pointer p) :: ρ) z = some (.int .i64 (v : Int)) := by exact fun _ => rfl) (hi : i < len := by omega) (hm : i < 8 := by omega) : Ops none P n ds all k Φ (o1 :: o2 :: l) ρ w :=
  wrG h1 hd1 hg1 h2 hd2 hg2 ht hs hs' hx hy hz rfl hb hi (by omega) (fun w' p h hk hs => kk w' p (by
    unfold AN
    rw [rng_congr (g := upd (fun j => .int .i64 (f j : Int)) (0 + i) (.int .i64 (v : Int))) (fun j hj => by unfold upd; rw [Nat.zero_add]; split <;> rfl)]
    exact h) hk hs)
theorem w_AB {o1 o2 : Oper} {d1 t e t' t2 b i len : Nat} {x y z : Operand} {f : Nat → Bool} {v : Bool} (hb : AB w b t2 f) (kk : ∀ w' p, AB w' b t2 (upd f i v) → Kp (fun j => j = b) w w' → w'.heap.size = w.heap.size → Ops none P n ds all k Φ l ((d1, p) :: ρ) w') (h1 : o1.op = .indexAddr t x y := by exact rfl) (hd1 : o1.dst = some d1 := by exact rfl) (hg1 : o1.guard = none := by exact rfl) (h2 : o2.op = .store t' (.tmp d1) z := by exact rfl) (hd2 : o2.dst = none := by exact rfl) (hg2 : o2.guard = none := by exact rfl)
    (ht : tyD P t = some (.array len e) := by exact rfl) (hs : tyS P e = some 1 := by exact rfl) (hs' : tyS P t' = some 1 := by exact rfl) (hx : ev ρ x = some (.pointer (some ⟨b, 0, none⟩)) := by exact rfl) (hy : ev ρ y = some (.int .i64 (i : Int)) := by exact rfl) (hz : ∀ p, ev ((d1, .pointer p) :: ρ) z = some (.bool v) := by exact fun _ => rfl) (hi : i < len := by omega) (hm : i < 8 := by omega) : Ops none P n ds all k Φ (o1 :: o2 :: l) ρ w :=
  wrG h1 hd1 hg1 h2 hd2 hg2 ht hs hs' hx hy hz rfl hb hi (by omega) (fun w' p h hk hs => kk w' p (by
    unfold AB
    rw [rng_congr (g := upd (fun j => .bool (f j)) (0 + i) (.bool v)) (fun j hj => by unfold upd; rw [Nat.zero_add]; split <;> rfl)]
    exact h) hk hs)
theorem w_PU {o1 o2 : Oper} {d1 t e t' b i len : Nat} {x y z : Operand} {u v : Nat → Int} {x' : Int} (hb : PV w b u v) (kk : ∀ w' p, PV w' b (upd u i x') v → Kp (fun j => j = b) w w' → w'.heap.size = w.heap.size → Ops none P n ds all k Φ l ((d1, p) :: ρ) w') (h1 : o1.op = .indexAddr t x y := by exact rfl) (hd1 : o1.dst = some d1 := by exact rfl) (hg1 : o1.guard = none := by exact rfl) (h2 : o2.op = .store t' (.tmp d1) z := by exact rfl) (hd2 : o2.dst = none := by exact rfl) (hg2 : o2.guard = none := by exact rfl)
    (ht : tyD P t = some (.array len e) := by exact rfl) (hs : tyS P e = some 1 := by exact rfl) (hs' : tyS P t' = some 1 := by exact rfl) (hx : ev ρ x = some (.pointer (some ⟨b, 0, none⟩)) := by exact rfl) (hy : ev ρ y = some (.int .i64 (i : Int)) := by exact rfl) (hz : ∀ p, ev ((d1, .pointer p) :: ρ) z = some (.int .i64 x') := by exact fun _ => rfl) (hi : i < len := by omega) (hm : i < 8 := by omega) : Ops none P n ds all k Φ (o1 :: o2 :: l) ρ w :=
  wrG h1 hd1 hg1 h2 hd2 hg2 ht hs hs' hx hy hz rfl hb hi (by omega) (fun w' p h hk hs => kk w' p (by
    unfold PV
    rw [rng_congr (g := upd (fun j => .int .i64 (if j < 8 then u j else v (j - 8))) (0 + i) (.int .i64 x')) (fun j hj => by
      unfold upd; rw [Nat.zero_add]
      by_cases e : j = i
      · rw [if_pos e, if_pos e, if_pos (by omega)]
      · rw [if_neg e, if_neg e])]
    exact h) hk hs)
theorem w_PW {o1 o2 : Oper} {d1 t e t' b i len : Nat} {x y z : Operand} {u v : Nat → Int} {x' : Int} (hb : PV w b u v) (kk : ∀ w' p, PV w' b u (upd v i x') → Kp (fun j => j = b) w w' → w'.heap.size = w.heap.size → Ops none P n ds all k Φ l ((d1, p) :: ρ) w') (h1 : o1.op = .indexAddr t x y := by exact rfl) (hd1 : o1.dst = some d1 := by exact rfl) (hg1 : o1.guard = none := by exact rfl) (h2 : o2.op = .store t' (.tmp d1) z := by exact rfl) (hd2 : o2.dst = none := by exact rfl) (hg2 : o2.guard = none := by exact rfl)
    (ht : tyD P t = some (.array len e) := by exact rfl) (hs : tyS P e = some 1 := by exact rfl) (hs' : tyS P t' = some 1 := by exact rfl) (hx : ev ρ x = some (.pointer (some ⟨b, 8, none⟩)) := by exact rfl) (hy : ev ρ y = some (.int .i64 (i : Int)) := by exact rfl) (hz : ∀ p, ev ((d1, .pointer p) :: ρ) z = some (.int .i64 x') := by exact fun _ => rfl) (hi : i < len := by omega) (hm : i < 8 := by omega) : Ops none P n ds all k Φ (o1 :: o2 :: l) ρ w :=
  wrG h1 hd1 hg1 h2 hd2 hg2 ht hs hs' hx hy hz rfl hb hi (by omega) (fun w' p h hk hs => kk w' p (by
    unfold PV
    rw [rng_congr (g := upd (fun j => .int .i64 (if j < 8 then u j else v (j - 8))) (8 + i) (.int .i64 x')) (fun j hj => by
      unfold upd
      by_cases e : j = 8 + i
      · rw [if_pos e, if_neg (by omega), if_pos (by omega)]
      · rw [if_neg e]
        by_cases e2 : j < 8
        · simp only [e2, if_true]
        · have e3 : ¬ j - 8 = i := by omega
          simp only [e2, e3, if_false])]
    exact h) hk hs)
end
end Go.Proofs.Ytehjmakiljhjdaa.VW
/- Plain: the steps of the two loops over all holes. -/
namespace Go.Proofs.Ytehjmakiljhjdaa.HG
section
variable {n : Nat} {us : Nat → Bool} {hole : Nat} {d far far' : Nat → Int} {fr fr' : Nat → Nat} {least : Int} {next J : Nat}
theorem Scan.start : Scan n us hole d far fr far fr 1099511627776 0 1 := ⟨fun j h1 h2 => by omega, fun j _ => ⟨rfl, rfl⟩, .inl ⟨rfl, rfl, fun j h1 h2 => by omega⟩⟩
theorem Scan.skip (h : Scan n us hole d far fr far' fr' least next J) (hu : us J = true) : Scan n us hole d far fr far' fr' least next (J + 1) := by
  refine ⟨fun j h1 h2 h3 => ?_, fun j hj => h.oth j (hj.imp id (Or.imp (fun h => by omega) id)), ?_⟩
  · have e : j ≠ J := fun e => by rw [e, hu] at h3; cases h3
    exact h.unu j h1 (by omega) h3
  · rcases h.lst with ⟨h1, h2, h3⟩ | ⟨h1, h2, h3, h4, h5⟩
    · refine .inl ⟨h1, h2, fun j q1 q2 q3 => ?_⟩
      have e : j ≠ J := fun e => by rw [e, hu] at q3; cases q3
      exact h3 j q1 (by omega) q3
    · refine .inr ⟨h1, by omega, h3, h4, fun j q1 q2 q3 => ?_⟩
      have e : j ≠ J := fun e => by rw [e, hu] at q3; cases q3
      exact h5 j q1 (by omega) q3
theorem Scan.go (h : Scan n us hole d far fr far' fr' least next J) (hJ : 1 ≤ J) (hu : us J = false) {far2 : Nat → Int} {fr2 : Nat → Nat} (h1 : ∀ j, j ≠ J → far2 j = far' j ∧ fr2 j = fr' j) (h2 : far2 J = (if d J < far' J then d J else far' J) ∧ fr2 J = (if d J < far' J then hole else fr' J)) :
    Scan n us hole d far fr far2 fr2 (if far2 J < least then far2 J else least) (if far2 J < least then J else next) (J + 1) := by
  obtain ⟨e1, e2⟩ := h.oth J (.inr (.inl (Nat.le_refl _)))
  rw [e1, e2] at h2
  refine ⟨fun j q1 q2 q3 => ?_, fun j hj => ?_, ?_⟩
  · by_cases e : j = J
    · subst e; exact h2
    · obtain ⟨g1, g2⟩ := h1 j e
      rw [g1, g2]
      exact h.unu j q1 (by omega) q3
  · have e : j ≠ J := fun e => by
      subst e
      rcases hj with hj | hj | hj
      · omega
      · omega
      · rw [hu] at hj; cases hj
    obtain ⟨g1, g2⟩ := h1 j e
    rw [g1, g2]
    exact h.oth j (hj.imp id (Or.imp (fun h => by omega) id))
  · rcases h.lst with ⟨g1, g2, g3⟩ | ⟨g1, g2, g3, g4, g5⟩
    · by_cases hl : far2 J < least
      · simp only [hl, if_true]
        refine .inr ⟨hJ, by omega, hu, trivial, fun j q1 q2 q3 => ?_⟩
        by_cases e : j = J
        · subst e; exact Int.le_refl _
        · have := g3 j q1 (by omega) q3
          rw [(h1 j e).1]
          omega
      · simp only [hl, if_false]
        refine .inl ⟨g1, g2, fun j q1 q2 q3 => ?_⟩
        by_cases e : j = J
        · subst e; omega
        · rw [(h1 j e).1]; exact g3 j q1 (by omega) q3
    · have hne : next ≠ J := by omega
      by_cases hl : far2 J < least
      · simp only [hl, if_true]
        refine .inr ⟨hJ, by omega, hu, trivial, fun j q1 q2 q3 => ?_⟩
        by_cases e : j = J
        · subst e; exact Int.le_refl _
        · have := g5 j q1 (by omega) q3
          rw [(h1 j e).1]
          omega
      · simp only [hl, if_false]
        refine .inr ⟨g1, by omega, g3, by rw [(h1 next hne).1]; exact g4, fun j q1 q2 q3 => ?_⟩
        by_cases e : j = J
        · subst e; omega
        · rw [(h1 j e).1]; exact g5 j q1 (by omega) q3
end
section
variable {us : Nat → Bool} {o : Nat → Nat} {least : Int} {u v far u' v' far' : Nat → Int} {J : Nat}
theorem Updd.start : Updd us o least u v far u v far 0 := ⟨fun b => by simp [hasK], fun j => by simp, fun j => by simp⟩
theorem Updd.cur (h : Updd us o least u v far u' v' far' J) : v' J = v J ∧ far' J = far J := ⟨by rw [h.hv]; simp, by rw [h.hf]; simp⟩
theorem Updd.curU (h : Updd us o least u v far u' v' far' J) (hi : ∀ k, k < J → us k = true → o k ≠ o J) : u' (o J) = u (o J) := by
  rw [h.hu]
  cases e : hasK us o (o J) J with
  | false => simp
  | true =>
    obtain ⟨k, h1, h2, h3⟩ := (hasK_iff J).1 e
    exact absurd h3 (hi k h1 h2)
theorem Updd.used (h : Updd us o least u v far u' v' far' J) (hu : us J = true) (hi : ∀ k, k < J → us k = true → o k ≠ o J) : Updd us o least u v far (upd u' (o J) (u (o J) + least)) (upd v' J (v J - least)) far' (J + 1) := by
  refine ⟨fun b => ?_, fun j => ?_, fun j => ?_⟩
  · by_cases e : b = o J
    · subst e
      rw [upd_eq]
      simp [hasK, hu]
    · rw [upd_ne e, h.hu b]
      have : (o J == b) = false := by simpa using fun e2 => e e2.symm
      simp [hasK, this]
  · by_cases e : j = J
    · subst e
      rw [upd_eq]
      simp [hu]
    · rw [upd_ne e, h.hv j]
      have : (j < J + 1) = (j < J) := propext (by omega)
      simp only [this]
  · rw [h.hf j]
    by_cases e : j = J
    · subst e; simp [hu]
    · have : (j < J + 1) = (j < J) := propext (by omega)
      simp only [this]
theorem Updd.free (h : Updd us o least u v far u' v' far' J) (hu : us J = false) : Updd us o least u v far u' v' (upd far' J (far J - least)) (J + 1) := by
  refine ⟨fun b => ?_, fun j => ?_, fun j => ?_⟩
  · rw [h.hu b]
    simp [hasK, hu]
  · rw [h.hv j]
    by_cases e : j = J
    · subst e; simp [hu]
    · have : (j < J + 1) = (j < J) := propext (by omega)
      simp only [this]
  · by_cases e : j = J
    · subst e
      rw [upd_eq]
      simp [hu]
    · rw [upd_ne e, h.hf j]
      have : (j < J + 1) = (j < J) := propext (by omega)
      simp only [this]
end
end Go.Proofs.Ytehjmakiljhjdaa.HG
