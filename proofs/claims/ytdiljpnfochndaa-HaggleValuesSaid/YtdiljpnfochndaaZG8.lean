/- A part of the walk: what this seat's statements share. -/
import Derived.Test.YtdiljpnfochndaaZG7
import Derived.Test.YtdiljpnfochndaaZG3
import Derived.Test.YtdiljpnfochndaaZG2
set_option linter.unusedVariables false
set_option linter.unusedSimpArgs false
set_option linter.unusedSectionVars false
/- Efforts of two players with the same known leaves. -/
namespace Go.Proofs.Ytdiljpnfochndaa.HP
/-- What the efforts of one side are, at all nodes: in bounds; and small unless far. -/
theorem need_all {l : List Nd} {dep : List Int} {mx : Bool} {lf : Int → Int} {es : List Ef} (hT : TF l dep) (hN : NeedP l dep mx lf es) {Q : Nat → Prop}
    (h : ∀ j : Nat, j < l.length → (∀ c ∈ kid l j, ∃ i : Nat, c = i ∧ i < l.length ∧ Q i) → Q j) : ∀ j : Nat, j < l.length → Q j := by
  have key : ∀ d j : Nat, l.length - j = d → j < l.length → Q j := by
    intro d
    induction d using Nat.strongRecOn with
    | _ d ih =>
      intro j hd hj
      refine h j hj fun c hc => ?_
      obtain ⟨h1, h2⟩ := mem_kid hT hj hc
      exact ⟨c.toNat, by omega, by omega, ih (l.length - c.toNat) (by omega) c.toNat rfl (by omega)⟩
  exact fun j hj => key _ j rfl hj
theorem ed_nat (es : List Ef) (i : Nat) : ed es (i : Int) = es.getD i (0, []) := rfl
theorem pick_le {es : List Ef} : ∀ (cs : List Int) (a : Ef), (cs.foldl (pickF es) a).1 ≤ a.1 ∧ (∀ c ∈ cs, (cs.foldl (pickF es) a).1 ≤ (ed es c).1) ∧ (cs.foldl (pickF es) a = a ∨ ∃ c ∈ cs, cs.foldl (pickF es) a = ed es c)
  | [], a => ⟨Int.le_refl _, by simp, .inl rfl⟩
  | c :: r, a => by
    obtain ⟨h1, h2, h3⟩ := pick_le r (pickF es a c)
    have hp : (pickF es a c).1 ≤ a.1 ∧ (pickF es a c).1 ≤ (ed es c).1 ∧ (pickF es a c = a ∨ pickF es a c = ed es c) := by
      unfold pickF
      split
      · exact ⟨by omega, Int.le_refl _, .inr rfl⟩
      · exact ⟨Int.le_refl _, by omega, .inl rfl⟩
    refine ⟨Int.le_trans h1 hp.1, fun x hx => ?_, ?_⟩
    · rcases List.mem_cons.1 hx with rfl | hx
      · exact Int.le_trans h1 hp.2.1
      · exact h2 x hx
    · rcases h3 with h3 | ⟨x, hx, h3⟩
      · rcases hp.2.2 with e | e
        · exact .inl (by rw [List.foldl_cons, h3, e])
        · exact .inr ⟨c, by simp, by rw [List.foldl_cons, h3, e]⟩
      · exact .inr ⟨x, by simp [hx], by rw [List.foldl_cons, h3]⟩
/-- The sum, capped. -/
theorem join_sum {es : List Ef} : ∀ (cs : List Int) (a : Ef), 0 ≤ a.1 → a.1 ≤ far → (∀ c ∈ cs, 0 ≤ (ed es c).1 ∧ (ed es c).1 ≤ far) →
    a.1 ≤ (cs.foldl (joinF es) a).1 ∧ (∀ c ∈ cs, (ed es c).1 ≤ (cs.foldl (joinF es) a).1) ∧ ((cs.foldl (joinF es) a).1 = 0 ↔ a.1 = 0 ∧ ∀ c ∈ cs, (ed es c).1 = 0)
  | [], a, _, _, _ => ⟨Int.le_refl _, by simp, by simp⟩
  | c :: r, a, h0, h1, hc => by
    have hcb := hc c (by simp)
    have hj : (joinF es a c).1 = min far (a.1 + (ed es c).1) := rfl
    obtain ⟨q1, q2, q3⟩ := join_sum r (joinF es a c) (by rw [hj]; omega) (by rw [hj]; omega) fun x hx => hc x (by simp [hx])
    refine ⟨?_, fun x hx => ?_, ?_⟩
    · rw [List.foldl_cons]; rw [hj] at q1; omega
    · rw [List.foldl_cons]
      rcases List.mem_cons.1 hx with rfl | hx
      · rw [hj] at q1; omega
      · exact q2 x hx
    · rw [List.foldl_cons, q3, hj]
      constructor
      · rintro ⟨e1, e2⟩
        refine ⟨by simp only [far] at *; omega, fun x hx => ?_⟩
        rcases List.mem_cons.1 hx with rfl | hx
        · simp only [far] at *; omega
        · exact e2 x hx
      · rintro ⟨e1, e2⟩
        have := e2 c (by simp)
        exact ⟨by simp only [far]; omega, fun x hx => e2 x (by simp [hx])⟩
/-- Small efforts do not reach the cap. -/
theorem join_small {es : List Ef} : ∀ (cs : List Int) (a : Ef), 0 ≤ a.1 → a.1 ≤ a.2.length → (∀ c ∈ cs, 0 ≤ (ed es c).1 ∧ (ed es c).1 ≤ (ed es c).2.length) → (cs.foldl (joinF es) a).1 ≤ (cs.foldl (joinF es) a).2.length
  | [], a, _, h, _ => h
  | c :: r, a, h0, h, hc => by
    have hcb := hc c (by simp)
    refine join_small r (joinF es a c) (by simp only [joinF, far]; omega) ?_ fun x hx => hc x (by simp [hx])
    simp only [joinF, List.length_append]
    omega
structure Small (l : List Nd) (e : Ef) : Prop where
  lo : 0 ≤ e.1
  hi : e.1 ≤ far
  sm : e.1 < far → e.1 ≤ e.2.length
theorem need_small {l : List Nd} {dep : List Int} {mx : Bool} {lf : Int → Int} {es : List Ef} (hT : TF l dep) (hN : NeedP l dep mx lf es) (h : ∀ i : Nat, leafB l i = true → lf i = 0 ∨ lf i = 1 ∨ lf i = far) :
    ∀ j : Nat, j < l.length → GoodE l j (es.getD j (0, [])).2 ∧ Small l (es.getD j (0, [])) := by
  refine need_all hT hN (Q := fun j => GoodE l j (es.getD j (0, [])).2 ∧ Small l (es.getD j (0, []))) fun j hj hk => ?_
  have hk' : ∀ c ∈ kid l j, GoodE l c (ed es c).2 ∧ Small l (ed es c) := fun c hc => by obtain ⟨i, rfl, _, h⟩ := hk c hc; exact h
  rw [hN.at_ j hj]
  refine ⟨NE_good hT hj fun c hc => (hk' c hc).1, ?_⟩
  have hbd := NE_bd (mx := mx) (dep := dep) (lf := lf) (es := es) (j := j) (fun hl => by rcases h j hl with e | e | e <;> rw [e] <;> decide) fun c hc => ⟨(hk' c hc).2.lo, (hk' c hc).2.hi⟩
  refine ⟨hbd.1, hbd.2, ?_⟩
  unfold NE
  split
  · rename_i hl
    intro hlt
    rcases h j hl with e | e | e <;> simp only [e] at hlt ⊢ <;> simp at hlt ⊢
  · split
    · intro hlt
      obtain ⟨_, _, h3⟩ := pick_le (es := es) (kid l j) (far, [])
      rcases h3 with h3 | ⟨c, hc, h3⟩
      · rw [h3] at hlt; simp at hlt
      · rw [h3] at hlt ⊢; exact (hk' c hc).2.sm hlt
    · intro hlt
      obtain ⟨_, h2, _⟩ := join_sum (es := es) (kid l j) (0, []) (by decide) (by decide) fun c hc => ⟨(hk' c hc).2.lo, (hk' c hc).2.hi⟩
      exact join_small (kid l j) (0, []) (by decide) (by simp) fun c hc => ⟨(hk' c hc).2.lo, (hk' c hc).2.sm (Int.lt_of_le_of_lt (h2 c hc) hlt)⟩
theorem small60 {l : List Nd} {dep : List Int} (hT : TF l dep) {j : Int} {e : Ef} (hg : GoodE l j e.2) (hs : Small l e) (h : e.1 < far) : e.1 ≤ 60 := by
  have := hs.sm h
  have := hg.len
  have := hT.n60
  omega
theorem pickZ {es : List Ef} {cs : List Int} (h : ∀ c ∈ cs, 0 ≤ (ed es c).1) : (cs.foldl (pickF es) (far, [])).1 = 0 ↔ ∃ c ∈ cs, (ed es c).1 = 0 := by
  obtain ⟨h1, h2, h3⟩ := pick_le (es := es) cs (far, [])
  constructor
  · intro e
    rcases h3 with h3 | ⟨c, hc, h3⟩
    · rw [h3] at e; simp [far] at e
    · exact ⟨c, hc, by rw [← h3]; exact e⟩
  · rintro ⟨c, hc, e⟩
    have := h2 c hc
    rcases h3 with h3 | ⟨x, hx, h3⟩
    · rw [h3, e] at this; simp [far] at this
    · have q := h x hx; rw [← h3] at q; omega
theorem pickFar {es : List Ef} {cs : List Int} (h : ∀ c ∈ cs, (ed es c).1 ≤ far) : (cs.foldl (pickF es) (far, [])).1 = far ↔ ∀ c ∈ cs, (ed es c).1 = far := by
  obtain ⟨h1, h2, h3⟩ := pick_le (es := es) cs (far, [])
  constructor
  · intro e c hc
    have := h2 c hc
    have := h c hc
    omega
  · intro e
    rcases h3 with h3 | ⟨x, hx, h3⟩
    · rw [h3]
    · rw [h3]; exact e x hx
theorem joinFar {l : List Nd} {dep : List Int} (hT : TF l dep) {es : List Ef} {j : Nat} (hj : j < l.length) (h : ∀ c ∈ kid l j, GoodE l c (ed es c).2 ∧ Small l (ed es c)) : ((kid l j).foldl (joinF es) (0, [])).1 = far ↔ ∃ c ∈ kid l j, (ed es c).1 = far := by
  obtain ⟨h1, h2, h3⟩ := join_sum (es := es) (kid l j) (0, []) (by decide) (by decide) fun c hc => ⟨(h c hc).2.lo, (h c hc).2.hi⟩
  have hbd : ((kid l j).foldl (joinF es) (0, [])).1 ≤ far := by
    have : ∀ (cs : List Int) (a : Ef), a.1 ≤ far → (cs.foldl (joinF es) a).1 ≤ far := by
      intro cs
      induction cs with
      | nil => intro a ha; exact ha
      | cons c r ih => intro a ha; exact ih _ (by simp only [joinF]; omega)
    exact this _ _ (by decide)
  constructor
  · intro e
    by_cases hx : ∃ c ∈ kid l j, (ed es c).1 = far
    · exact hx
    · exfalso
      have hs := join_small (es := es) (kid l j) (0, []) (by decide) (by simp) fun c hc => ⟨(h c hc).2.lo, (h c hc).2.sm (by
        have := (h c hc).2.hi
        have : (ed es c).1 ≠ far := fun e => hx ⟨c, hc, e⟩
        omega)⟩
      have hg := (good_join hT hj (fun c hc => (h c hc).1) (kid l j).length (Nat.le_refl _)).1.len
      rw [List.take_length] at hg
      have := hT.n60
      rw [e] at hs
      simp only [far] at hs
      omega
  · rintro ⟨c, hc, e⟩
    have := h2 c hc
    omega
theorem joinZ {es : List Ef} {cs : List Int} (h : ∀ c ∈ cs, 0 ≤ (ed es c).1 ∧ (ed es c).1 ≤ far) : (cs.foldl (joinF es) (0, [])).1 = 0 ↔ ∀ c ∈ cs, (ed es c).1 = 0 := by
  obtain ⟨_, _, h3⟩ := join_sum (es := es) cs (0, []) (by decide) (by decide) h
  rw [h3]
  simp
theorem dual {l : List Nd} {dep : List Int} {tf ff : Int → Int} {es fs : List Ef} (hT : TF l dep) (hE : NeedP l dep true tf es) (hF : NeedP l dep false ff fs) (ht : ∀ i : Nat, leafB l i = true → tf i = 0 ∨ tf i = 1 ∨ tf i = far) (hf : ∀ i : Nat, leafB l i = true → ff i = 0 ∨ ff i = 1 ∨ ff i = far)
    (h : ∀ i : Nat, i < l.length → leafB l i = true → (tf i = 0 ↔ ff i = far) ∧ (ff i = 0 ↔ tf i = far)) : ∀ j : Nat, j < l.length → ((es.getD j (0, [])).1 = 0 ↔ (fs.getD j (0, [])).1 = far) ∧ ((fs.getD j (0, [])).1 = 0 ↔ (es.getD j (0, [])).1 = far) := by
  have sE := need_small hT hE ht
  have sF := need_small hT hF hf
  refine need_all hT hE (Q := fun j => ((es.getD j (0, [])).1 = 0 ↔ (fs.getD j (0, [])).1 = far) ∧ ((fs.getD j (0, [])).1 = 0 ↔ (es.getD j (0, [])).1 = far)) fun j hj hk => ?_
  have kE : ∀ c ∈ kid l j, GoodE l c (ed es c).2 ∧ Small l (ed es c) := fun c hc => by obtain ⟨i, rfl, hi, _⟩ := hk c hc; exact sE i hi
  have kF : ∀ c ∈ kid l j, GoodE l c (ed fs c).2 ∧ Small l (ed fs c) := fun c hc => by obtain ⟨i, rfl, hi, _⟩ := hk c hc; exact sF i hi
  have kD : ∀ c ∈ kid l j, ((ed es c).1 = 0 ↔ (ed fs c).1 = far) ∧ ((ed fs c).1 = 0 ↔ (ed es c).1 = far) := fun c hc => by obtain ⟨i, rfl, hi, h⟩ := hk c hc; exact h
  rw [hE.at_ j hj, hF.at_ j hj]
  unfold NE
  by_cases hl : leafB l j = true
  · rw [if_pos hl, if_pos hl]; exact h j hj hl
  · rw [if_neg hl, if_neg hl]
    by_cases he : evB dep j = true
    · rw [if_pos (by rw [he]; rfl), if_neg (by rw [he]; simp), pickZ fun c hc => (kE c hc).2.lo, pickFar fun c hc => (kE c hc).2.hi, joinFar hT hj kF, joinZ fun c hc => ⟨(kF c hc).2.lo, (kF c hc).2.hi⟩]
      exact ⟨⟨fun ⟨c, hc, e⟩ => ⟨c, hc, (kD c hc).1.1 e⟩, fun ⟨c, hc, e⟩ => ⟨c, hc, (kD c hc).1.2 e⟩⟩, ⟨fun e c hc => (kD c hc).2.1 (e c hc), fun e c hc => (kD c hc).2.2 (e c hc)⟩⟩
    · have he' : evB dep j = false := by simpa using he
      rw [if_neg (by rw [he']; simp), if_pos (by rw [he']; rfl), pickZ fun c hc => (kF c hc).2.lo, pickFar fun c hc => (kF c hc).2.hi, joinFar hT hj kE, joinZ fun c hc => ⟨(kE c hc).2.lo, (kE c hc).2.hi⟩]
      exact ⟨⟨fun e c hc => (kD c hc).1.1 (e c hc), fun e c hc => (kD c hc).1.2 (e c hc)⟩, ⟨fun ⟨c, hc, e⟩ => ⟨c, hc, (kD c hc).2.1 e⟩, fun ⟨c, hc, e⟩ => ⟨c, hc, (kD c hc).2.2 e⟩⟩⟩
theorem maxL_ge {cs : List Int} {g : Int → Int} {b : Int} (h0 : cs ≠ []) : b ≤ maxL (cs.map g) ↔ ∃ c ∈ cs, b ≤ g c := by
  cases cs with
  | nil => exact absurd rfl h0
  | cons c r =>
    have : ∀ (r : List Int) (a : Int), b ≤ (r.map g).foldl max a ↔ b ≤ a ∨ ∃ c ∈ r, b ≤ g c := by
      intro r
      induction r with
      | nil => intro a; simp
      | cons x r ih =>
        intro a
        have hm : b ≤ max a (g x) ↔ b ≤ a ∨ b ≤ g x := by omega
        rw [List.map_cons, List.foldl_cons, ih, hm, or_assoc]
        simp only [List.mem_cons, exists_eq_or_imp]
    simp only [maxL, List.map_cons]
    rw [this]
    simp
theorem minL_ge {cs : List Int} {g : Int → Int} {b : Int} (h0 : cs ≠ []) : b ≤ minL (cs.map g) ↔ ∀ c ∈ cs, b ≤ g c := by
  cases cs with
  | nil => exact absurd rfl h0
  | cons c r =>
    have : ∀ (r : List Int) (a : Int), b ≤ (r.map g).foldl min a ↔ b ≤ a ∧ ∀ c ∈ r, b ≤ g c := by
      intro r
      induction r with
      | nil => intro a; simp
      | cons x r ih =>
        intro a
        have hm : b ≤ min a (g x) ↔ b ≤ a ∧ b ≤ g x := by omega
        rw [List.map_cons, List.foldl_cons, ih, hm, and_assoc]
        simp only [List.mem_cons, forall_eq_or_imp]
    simp only [minL, List.map_cons]
    rw [this]
    simp
/-- No effort is needed exactly where the value suffices. -/
theorem zero_iff {l : List Nd} {dep : List Int} {tf wf : Int → Int} {es : List Ef} {vs : List Int} {b : Int} (hT : TF l dep) (hE : NeedP l dep true tf es) (hv : ValP l dep wf vs) (ht : ∀ i : Nat, leafB l i = true → tf i = 0 ∨ tf i = 1 ∨ tf i = far)
    (h : ∀ i : Nat, i < l.length → leafB l i = true → (tf i = 0 ↔ b ≤ wf i)) : ∀ j : Nat, j < l.length → ((es.getD j (0, [])).1 = 0 ↔ b ≤ vs.getD j 0) := by
  have sE := need_small hT hE ht
  refine need_all hT hE (Q := fun j => ((es.getD j (0, [])).1 = 0 ↔ b ≤ vs.getD j 0)) fun j hj hk => ?_
  have kE : ∀ c ∈ kid l j, GoodE l c (ed es c).2 ∧ Small l (ed es c) := fun c hc => by obtain ⟨i, rfl, hi, _⟩ := hk c hc; exact sE i hi
  have kD : ∀ c ∈ kid l j, ((ed es c).1 = 0 ↔ b ≤ rd vs c) := fun c hc => by obtain ⟨i, rfl, hi, h⟩ := hk c hc; exact h
  rw [hE.at_ j hj, hv.at_ j hj]
  unfold NE NV
  by_cases hl : leafB l j = true
  · rw [if_pos hl, if_pos hl]; exact h j hj hl
  · rw [if_neg hl, if_neg hl]
    have hne : kid l j ≠ [] := fun e => hl (by unfold leafB; rw [e]; rfl)
    by_cases he : evB dep j = true
    · rw [if_pos (by rw [he]; rfl), if_pos he, pickZ fun c hc => (kE c hc).2.lo, maxL_ge hne]
      exact ⟨fun ⟨c, hc, e⟩ => ⟨c, hc, (kD c hc).1 e⟩, fun ⟨c, hc, e⟩ => ⟨c, hc, (kD c hc).2 e⟩⟩
    · rw [if_neg (by simpa using he), if_neg he, joinZ fun c hc => ⟨(kE c hc).2.lo, (kE c hc).2.hi⟩, minL_ge hne]
      exact ⟨fun e c hc => (kD c hc).1 (e c hc), fun e c hc => (kD c hc).2 (e c hc)⟩
/-- What holds for the leaves' efforts and goes through least ones and sums. -/
theorem zero_mono {l : List Nd} {dep : List Int} {mx : Bool} {tf tg : Int → Int} {es gs : List Ef} (hT : TF l dep) (hE : NeedP l dep mx tf es) (hG : NeedP l dep mx tg gs) (ht : ∀ i : Nat, leafB l i = true → tf i = 0 ∨ tf i = 1 ∨ tf i = far) (hg : ∀ i : Nat, leafB l i = true → tg i = 0 ∨ tg i = 1 ∨ tg i = far)
    (h : ∀ i : Nat, i < l.length → leafB l i = true → tf i = 0 → tg i = 0) : ∀ j : Nat, j < l.length → (es.getD j (0, [])).1 = 0 → (gs.getD j (0, [])).1 = 0 := by
  have sE := need_small hT hE ht
  have sG := need_small hT hG hg
  refine need_all hT hE (Q := fun j => (es.getD j (0, [])).1 = 0 → (gs.getD j (0, [])).1 = 0) fun j hj hk => ?_
  have kE : ∀ c ∈ kid l j, GoodE l c (ed es c).2 ∧ Small l (ed es c) := fun c hc => by obtain ⟨i, rfl, hi, _⟩ := hk c hc; exact sE i hi
  have kG : ∀ c ∈ kid l j, GoodE l c (ed gs c).2 ∧ Small l (ed gs c) := fun c hc => by obtain ⟨i, rfl, hi, _⟩ := hk c hc; exact sG i hi
  have kD : ∀ c ∈ kid l j, (ed es c).1 = 0 → (ed gs c).1 = 0 := fun c hc => by obtain ⟨i, rfl, hi, h⟩ := hk c hc; exact h
  rw [hE.at_ j hj, hG.at_ j hj]
  unfold NE
  by_cases hl : leafB l j = true
  · rw [if_pos hl, if_pos hl]; exact h j hj hl
  · rw [if_neg hl, if_neg hl]
    by_cases he : (evB dep j == mx) = true
    · rw [if_pos he, if_pos he, pickZ fun c hc => (kE c hc).2.lo, pickZ fun c hc => (kG c hc).2.lo]
      exact fun ⟨c, hc, e⟩ => ⟨c, hc, kD c hc e⟩
    · rw [if_neg he, if_neg he, joinZ fun c hc => ⟨(kE c hc).2.lo, (kE c hc).2.hi⟩, joinZ fun c hc => ⟨(kG c hc).2.lo, (kG c hc).2.hi⟩]
      exact fun e c hc => kD c hc (e c hc)
/-- Where no leaf is free, no node is. -/
theorem zero_none {l : List Nd} {dep : List Int} {mx : Bool} {tf : Int → Int} {es : List Ef} (hT : TF l dep) (hE : NeedP l dep mx tf es) (ht : ∀ i : Nat, leafB l i = true → tf i = 0 ∨ tf i = 1 ∨ tf i = far)
    (h : ∀ i : Nat, i < l.length → leafB l i = true → tf i ≠ 0) : ∀ j : Nat, j < l.length → (es.getD j (0, [])).1 ≠ 0 := by
  have sE := need_small hT hE ht
  refine need_all hT hE (Q := fun j => (es.getD j (0, [])).1 ≠ 0) fun j hj hk => ?_
  have kE : ∀ c ∈ kid l j, GoodE l c (ed es c).2 ∧ Small l (ed es c) := fun c hc => by obtain ⟨i, rfl, hi, _⟩ := hk c hc; exact sE i hi
  have kD : ∀ c ∈ kid l j, (ed es c).1 ≠ 0 := fun c hc => by obtain ⟨i, rfl, hi, h⟩ := hk c hc; exact h
  rw [hE.at_ j hj]
  unfold NE
  by_cases hl : leafB l j = true
  · rw [if_pos hl]; exact h j hj hl
  · rw [if_neg hl]
    have hne : kid l j ≠ [] := fun e => hl (by unfold leafB; rw [e]; rfl)
    by_cases he : (evB dep j == mx) = true
    · rw [if_pos he, ne_eq, pickZ fun c hc => (kE c hc).2.lo]
      exact fun ⟨c, hc, e⟩ => kD c hc e
    · rw [if_neg he, ne_eq, joinZ fun c hc => ⟨(kE c hc).2.lo, (kE c hc).2.hi⟩]
      intro e
      cases hk2 : kid l j with
      | nil => exact hne hk2
      | cons c r => have hm : c ∈ kid l j := by rw [hk2]; simp
                    exact kD c hm (e c hm)
/-- Where every leaf is free or out of reach, so is every node. -/
theorem zero_or_far {l : List Nd} {dep : List Int} {mx : Bool} {tf : Int → Int} {es : List Ef} (hT : TF l dep) (hE : NeedP l dep mx tf es) (ht : ∀ i : Nat, leafB l i = true → tf i = 0 ∨ tf i = 1 ∨ tf i = far)
    (h : ∀ i : Nat, i < l.length → leafB l i = true → tf i = 0 ∨ tf i = far) : ∀ j : Nat, j < l.length → (es.getD j (0, [])).1 = 0 ∨ (es.getD j (0, [])).1 = far := by
  have sE := need_small hT hE ht
  refine need_all hT hE (Q := fun j => (es.getD j (0, [])).1 = 0 ∨ (es.getD j (0, [])).1 = far) fun j hj hk => ?_
  have kE : ∀ c ∈ kid l j, GoodE l c (ed es c).2 ∧ Small l (ed es c) := fun c hc => by obtain ⟨i, rfl, hi, _⟩ := hk c hc; exact sE i hi
  have kD : ∀ c ∈ kid l j, (ed es c).1 = 0 ∨ (ed es c).1 = far := fun c hc => by obtain ⟨i, rfl, hi, h⟩ := hk c hc; exact h
  rw [hE.at_ j hj]
  unfold NE
  by_cases hl : leafB l j = true
  · rw [if_pos hl]; exact h j hj hl
  · rw [if_neg hl]
    by_cases he : (evB dep j == mx) = true
    · rw [if_pos he]
      obtain ⟨_, _, h3⟩ := pick_le (es := es) (kid l j) (far, [])
      rcases h3 with h3 | ⟨c, hc, h3⟩
      · rw [h3]; exact .inr rfl
      · rw [h3]; exact kD c hc
    · rw [if_neg he, joinFar hT hj kE, joinZ fun c hc => ⟨(kE c hc).2.lo, (kE c hc).2.hi⟩]
      by_cases hx : ∃ c ∈ kid l j, (ed es c).1 = far
      · exact .inr hx
      · exact .inl fun c hc => by rcases kD c hc with e | e; exact e; exact absurd ⟨c, hc, e⟩ hx
end Go.Proofs.Ytdiljpnfochndaa.HP
namespace Go.Proofs.Ytdiljpnfochndaa
open Go Go.RowKit Go.Proofs.Ytdiljpnfochndaa.VW
open Go.Proofs.Ytdiljpnfochndaa.HP (Nd kid wor leafB rd modM modM_bd tameM tame_TK gameOf gameOf_TF ValP far Ef NeedP TF)
attribute [local irreducible] W Ops
theorem numF_3 {l : List Nd} {xs : List Int} {b : Int} {mx : Bool} (i : Int) : numF l xs b mx i = 0 ∨ numF l xs b mx i = 1 ∨ numF l xs b mx i = far := by
  unfold numF
  split
  · split
    · exact .inl rfl
    · exact .inr (.inr rfl)
  · exact .inr (.inl rfl)
theorem num_facts {l : List Nd} {dep S : List Int} {b y z : Int} (hT : TF l dep) (hy : NumR l dep S b true y) (hz : NumR l dep S b false z) : (y = 0 ↔ z = -1) ∧ (z = 0 ↔ y = -1) ∧ -1 ≤ y ∧ -1 ≤ z := by
  obtain ⟨es, hE, rfl⟩ := hy
  obtain ⟨fs, hF, rfl⟩ := hz
  have h1 := hT.n1
  have hd := Go.Proofs.Ytdiljpnfochndaa.HP.dual hT hE hF (fun i _ => numF_3 _) (fun i _ => numF_3 _) (fun i _ _ => by
    unfold numF
    by_cases hc : S.contains (i : Int)
    · rw [if_pos hc, if_pos hc]
      by_cases hw : b ≤ wor l i <;> simp [hw, far]
    · rw [if_neg hc, if_neg hc]; simp [far]) 0 (by omega)
  have sE := (Go.Proofs.Ytdiljpnfochndaa.HP.need_small hT hE (fun i _ => numF_3 _) 0 (by omega)).2
  have sF := (Go.Proofs.Ytdiljpnfochndaa.HP.need_small hT hF (fun i _ => numF_3 _) 0 (by omega)).2
  have e1 := sE.lo
  have e2 := sE.hi
  have e3 := sF.lo
  have e4 := sF.hi
  generalize (es.getD 0 (0, [])).1 = T at *
  generalize (fs.getD 0 (0, [])).1 = F at *
  simp only [far] at *
  split <;> split <;> omega
theorem num_dec {l : List Nd} {dep S vs : List Int} {b y : Int} (hT : TF l dep) (hb : -1000 ≤ b) (hy : NumR l dep S b true y) (hv : ValP l dep (worstF l S) vs) : y = 0 ↔ b ≤ vs.getD 0 0 := by
  obtain ⟨es, hE, rfl⟩ := hy
  have h1 := hT.n1
  have := Go.Proofs.Ytdiljpnfochndaa.HP.zero_iff (b := b) hT hE hv (fun i _ => numF_3 _) (fun i _ _ => by
    unfold numF worstF
    by_cases hc : S.contains (i : Int)
    · rw [if_pos hc, if_pos hc]
      by_cases hw : b ≤ wor l i <;> simp [hw, far]
    · rw [if_neg hc, if_neg hc]; simp [far]; omega) 0 (by omega)
  rw [← this]
  split
  · rename_i h
    constructor
    · intro e; omega
    · intro e; rw [e] at h; simp [far] at h
  · rfl
theorem num_all {l : List Nd} {dep S vs : List Int} {b y : Int} (hT : TF l dep) (hS : ∀ i : Nat, i < l.length → leafB l i = true → (i : Int) ∈ S) (hy : NumR l dep S b true y) (hv : ValP l dep (wor l) vs) : (b ≤ vs.getD 0 0 → y = 0) ∧ (vs.getD 0 0 < b → y = -1) := by
  obtain ⟨es, hE, rfl⟩ := hy
  have h1 := hT.n1
  have hc : ∀ i : Nat, i < l.length → leafB l i = true → S.contains (i : Int) = true := fun i hi hl => by simpa using hS i hi hl
  have hz := Go.Proofs.Ytdiljpnfochndaa.HP.zero_iff (b := b) hT hE hv (fun i _ => numF_3 _) (fun i hi hl => by
    unfold numF
    rw [if_pos (hc i hi hl)]
    by_cases hw : b ≤ wor l i <;> simp [hw, far]) 0 (by omega)
  have hf := Go.Proofs.Ytdiljpnfochndaa.HP.zero_or_far hT hE (fun i _ => numF_3 _) (fun i hi hl => by
    unfold numF
    rw [if_pos (hc i hi hl)]
    by_cases hw : b ≤ wor l i <;> simp [hw]) 0 (by omega)
  refine ⟨fun h => ?_, fun h => ?_⟩
  · rw [hz.2 h]; rfl
  · rcases hf with e | e
    · have := hz.1 e; omega
    · rw [e]; rfl
theorem num_none {l : List Nd} {dep : List Int} {b y : Int} {mx : Bool} (hT : TF l dep) (hy : NumR l dep [] b mx y) : y ≠ 0 := by
  obtain ⟨es, hE, rfl⟩ := hy
  have h1 := hT.n1
  have := Go.Proofs.Ytdiljpnfochndaa.HP.zero_none hT hE (fun i _ => numF_3 _) (fun i hi hl => by unfold numF; simp) 0 (by omega)
  split
  · omega
  · exact this
theorem num_mono {l : List Nd} {dep S S' : List Int} {b y y' : Int} {mx : Bool} (hT : TF l dep) (hy : NumR l dep S' b mx y') (hy' : NumR l dep S b mx y) (hs : ∀ x ∈ S', x ∈ S) : y' = 0 → y = 0 := by
  obtain ⟨es, hE, rfl⟩ := hy
  obtain ⟨fs, hF, rfl⟩ := hy'
  have h1 := hT.n1
  have := Go.Proofs.Ytdiljpnfochndaa.HP.zero_mono hT hE hF (fun i _ => numF_3 _) (fun i _ => numF_3 _) (fun i hi hl => by
    unfold numF
    by_cases hc : S'.contains (i : Int)
    · have hc2 : S.contains (i : Int) = true := by simpa using hs _ (by simpa using hc)
      rw [if_pos hc, if_pos hc2]
      exact id
    · rw [if_neg hc]; intro e; simp at e) 0 (by omega)
  intro e
  split at e
  · omega
  · rw [this e]; rfl
end Go.Proofs.Ytdiljpnfochndaa
namespace Go.Proofs.Ytdiljpnfochndaa
open Go Go.RowKit Go.Proofs.Ytdiljpnfochndaa.VW
open Go.Proofs.Ytdiljpnfochndaa.HP (Nd kid wor leafB rd modM modM_bd tameM tame_TK gameOf gameOf_TF ValP far Ef NeedP TF)
attribute [local irreducible] W Ops
set_option maxRecDepth 100000 in
theorem numbersLaw_c {w : World} {pv wv ov : Value} {ps ws os : List Int} {b : Int} (hp : SlI w pv ps) (hw : SlI w wv ws) (ho : SlI w ov os) :
    Calls Try.prog 5 #[pv, wv, ov, .int .i64 b] w (Ret fun r w' => r = .bool true ∧ Below w.heap.size w w') := by
  refine calls_W (vs := [_, _, _, _]) Try.func5 rfl (by kernel_rfl) rfl ?_
  (repeat (first | with_reducible refine W.seq ?_ | with_reducible refine Ops.nil ?_ | with_reducible refine W.region ?_ | refine z_p (kk := ?_) | refine z_a (kk := ?_) | refine z_y (kk := ?_) | refine z_n (kk := ?_) | refine z_u (kk := ?_) | with_reducible refine W.skip ?_ | with_reducible refine W.endb ?_ | with_reducible refine W.block ?_ | refine W.exit rfl ?_ | refine z_l (kk := ?_) | refine z_f (kk := ?_) | refine z_M (kk := ?_) | refine z_m (kk := ?_) | refine z_e (kk := ?_) | refine z_E (kk := ?_) | refine z_d (kk := ?_)))
  refine Ops.call rfl rfl rfl rfl rfl (tame_c (most := 60) hp hw (by decide) (by decide)) (fun tv w1 hR => ?_)
  obtain ⟨hT1, hb1⟩ := hR
  have hTK := tame_TK (ps := ps) (ws := ws) (most := 60) (by decide) (by decide)
  generalize tameM ps ws 60 = l at *
  obtain ⟨dep, hg⟩ := hTK.game
  have hTF := gameOf_TF hg
  have hn60 := hTF.n60
  have hn1 := hTF.n1
  have hmb := modM_bd b (n := 201) (by omega)
  (repeat (first | with_reducible refine W.seq ?_ | with_reducible refine Ops.nil ?_ | with_reducible refine W.region ?_ | refine z_p (kk := ?_) | refine z_a (kk := ?_) | refine z_y (kk := ?_) | refine z_n (kk := ?_) | refine z_u (kk := ?_) | with_reducible refine W.skip ?_ | with_reducible refine W.endb ?_ | with_reducible refine W.block ?_ | refine W.exit rfl ?_ | refine z_l (kk := ?_) | refine z_f (kk := ?_) | refine z_M (kk := ?_) | refine z_m (kk := ?_) | refine z_e (kk := ?_) | refine z_E (kk := ?_) | refine z_d (kk := ?_)))
  refine Ops.callS rfl rfl rfl rfl rfl (mod_c _ _ _ (by decide) (by decide)) ?_
  generalize modM b 201 = b' at *
  obtain ⟨At, ct, rfl⟩ := hT1.sl
  obtain ⟨A2, c2, rfl⟩ := Sl.sl ho
  (repeat (first | with_reducible refine W.seq ?_ | with_reducible refine Ops.nil ?_ | with_reducible refine W.region ?_ | refine z_p (kk := ?_) | refine z_a (kk := ?_) | refine z_y (kk := ?_) | refine z_n (kk := ?_) | refine z_u (kk := ?_) | with_reducible refine W.skip ?_ | with_reducible refine W.endb ?_ | with_reducible refine W.block ?_ | refine W.exit rfl ?_ | refine z_l (kk := ?_) | refine z_f (kk := ?_) | refine z_M (kk := ?_) | refine z_m (kk := ?_) | refine z_e (kk := ?_) | refine z_E (kk := ?_) | refine z_d (kk := ?_)))
  refine W.loop (fun m ρ w3 => ∃ (j : Nat) (lv : Value), m = l.length - j ∧ j ≤ l.length ∧ ρ = [(2, .slice A2 os.length c2), (3, .int .i64 (b' - 100)), (9, .slice At l.length ct), (10, lv), (11, .int .i64 j)] ∧ FInv w1 w3 lv (pickL (fun i => leafB l i) j))
    ⟨_, _, ⟨0, _, rfl, Nat.zero_le _, rfl, FInv.nil (Below.refl _ _)⟩, (by repeat (first | exact trivial | refine And.intro rfl ?_))⟩ ?_
  rintro m ρ w3 ⟨j, lv, rfl, hj, rfl, hI⟩
  have hb3 := hI.bel
  have hpl := pickL_len (fun i => leafB l i) j
  (repeat (first | with_reducible refine W.seq ?_ | with_reducible refine Ops.nil ?_ | with_reducible refine W.region ?_ | refine z_p (kk := ?_) | refine z_a (kk := ?_) | refine z_y (kk := ?_) | refine z_n (kk := ?_) | refine z_u (kk := ?_) | with_reducible refine W.skip ?_ | with_reducible refine W.endb ?_ | with_reducible refine W.block ?_ | refine W.exit rfl ?_ | refine z_l (kk := ?_) | refine z_f (kk := ?_) | refine z_M (kk := ?_) | refine z_m (kk := ?_) | refine z_e (kk := ?_) | refine z_E (kk := ?_) | refine z_d (kk := ?_)))
  refine W.cond rfl (fun hc => ?_) (fun hc => ?_)
  · have hlt : j < l.length := by simp at hc; omega
    have hs := pickL_succ (fun i => leafB l i) j
    simp only [leafB_len] at hs
    (repeat (first | with_reducible refine W.seq ?_ | with_reducible refine Ops.nil ?_ | with_reducible refine W.region ?_ | refine z_p (kk := ?_) | refine z_a (kk := ?_) | refine z_y (kk := ?_) | refine z_n (kk := ?_) | refine z_u (kk := ?_) | with_reducible refine W.skip ?_ | with_reducible refine W.endb ?_ | with_reducible refine W.block ?_ | refine W.exit rfl ?_ | refine z_l (kk := ?_) | refine z_f (kk := ?_) | refine z_M (kk := ?_) | refine z_m (kk := ?_) | refine z_e (kk := ?_) | refine z_E (kk := ?_) | refine z_d (kk := ?_)))
    refine Ops.rdK rfl rfl rfl rfl rfl rfl rfl rfl rfl rfl rfl rfl rfl rfl rfl hT1 hb3 (by omega) (by omega) (fun cv p q hcv => ?_)
    obtain ⟨Ac, cc, rfl⟩ := Sl.sl hcv
    (repeat (first | with_reducible refine W.seq ?_ | with_reducible refine Ops.nil ?_ | with_reducible refine W.region ?_ | refine z_p (kk := ?_) | refine z_a (kk := ?_) | refine z_y (kk := ?_) | refine z_n (kk := ?_) | refine z_u (kk := ?_) | with_reducible refine W.skip ?_ | with_reducible refine W.endb ?_ | with_reducible refine W.block ?_ | refine W.exit rfl ?_ | refine z_l (kk := ?_) | refine z_f (kk := ?_) | refine z_M (kk := ?_) | refine z_m (kk := ?_) | refine z_e (kk := ?_) | refine z_E (kk := ?_) | refine z_d (kk := ?_)))
    refine W.cond rfl (fun hc2 => ?_) (fun hc2 => ?_)
    · rw [hc2, if_pos rfl] at hs
      (repeat (first | with_reducible refine W.seq ?_ | with_reducible refine Ops.nil ?_ | with_reducible refine W.region ?_ | refine z_p (kk := ?_) | refine z_a (kk := ?_) | refine z_y (kk := ?_) | refine z_n (kk := ?_) | refine z_u (kk := ?_) | with_reducible refine W.skip ?_ | with_reducible refine W.endb ?_ | with_reducible refine W.block ?_ | refine W.exit rfl ?_ | refine z_l (kk := ?_) | refine z_f (kk := ?_) | refine z_M (kk := ?_) | refine z_m (kk := ?_) | refine z_e (kk := ?_) | refine z_E (kk := ?_) | refine z_d (kk := ?_)))
      refine Ops.push rfl rfl rfl rfl rfl rfl rfl rfl rfl rfl rfl rfl (fun _ => rfl) rfl hI.own (by omega) (fun lv' p w5 ho5 k5 hn5 => ?_)
      have hI5 := hI.push ho5 k5 hn5
      simp only [leafB_len] at hI5
      rw [← hs] at hI5
      simp only [← leafB_len] at hI5
      (repeat (first | with_reducible refine W.seq ?_ | with_reducible refine Ops.nil ?_ | with_reducible refine W.region ?_ | refine z_p (kk := ?_) | refine z_a (kk := ?_) | refine z_y (kk := ?_) | refine z_n (kk := ?_) | refine z_u (kk := ?_) | with_reducible refine W.skip ?_ | with_reducible refine W.endb ?_ | with_reducible refine W.block ?_ | refine W.exit rfl ?_ | refine z_l (kk := ?_) | refine z_f (kk := ?_) | refine z_M (kk := ?_) | refine z_m (kk := ?_) | refine z_e (kk := ?_) | refine z_E (kk := ?_) | refine z_d (kk := ?_)))
      exact W.endl ⟨_, _, ⟨⟨j + 1, _, rfl, by omega, rfl, hI5⟩, by omega⟩, (by repeat (first | exact trivial | refine And.intro rfl ?_))⟩
    · rw [hc2, if_neg (by simp), List.append_nil] at hs
      have hI5 := hI
      simp only [leafB_len] at hI5
      rw [← hs] at hI5
      simp only [← leafB_len] at hI5
      (repeat (first | with_reducible refine W.seq ?_ | with_reducible refine Ops.nil ?_ | with_reducible refine W.region ?_ | refine z_p (kk := ?_) | refine z_a (kk := ?_) | refine z_y (kk := ?_) | refine z_n (kk := ?_) | refine z_u (kk := ?_) | with_reducible refine W.skip ?_ | with_reducible refine W.endb ?_ | with_reducible refine W.block ?_ | refine W.exit rfl ?_ | refine z_l (kk := ?_) | refine z_f (kk := ?_) | refine z_M (kk := ?_) | refine z_m (kk := ?_) | refine z_e (kk := ?_) | refine z_E (kk := ?_) | refine z_d (kk := ?_)))
      exact W.endl ⟨_, _, ⟨⟨j + 1, _, rfl, by omega, rfl, hI5⟩, by omega⟩, (by repeat (first | exact trivial | refine And.intro rfl ?_))⟩
  · have hlt : j = l.length := by simp at hc; omega
    subst hlt
    have hT3 := hT1.below hb3
    have hb03 := hb1.trans (hb3.mono hb1.size)
    have hla : Listed l (pickL (fun i => leafB l i) l.length) := pickL_listed fun i _ h => h
    have hall : ∀ i : Nat, i < l.length → leafB l i = true → (i : Int) ∈ pickL (fun i => leafB l i) l.length := fun i hi hl => pickL_mem.2 ⟨i, hi, hl, rfl⟩
    generalize pickL (fun i => leafB l i) l.length = S at *
    (repeat (first | with_reducible refine W.seq ?_ | with_reducible refine Ops.nil ?_ | with_reducible refine W.region ?_ | refine z_p (kk := ?_) | refine z_a (kk := ?_) | refine z_y (kk := ?_) | refine z_n (kk := ?_) | refine z_u (kk := ?_) | with_reducible refine W.skip ?_ | with_reducible refine W.endb ?_ | with_reducible refine W.block ?_ | refine W.exit rfl ?_ | refine z_l (kk := ?_) | refine z_f (kk := ?_) | refine z_M (kk := ?_) | refine z_m (kk := ?_) | refine z_e (kk := ?_) | refine z_E (kk := ?_) | refine z_d (kk := ?_)))
    refine Ops.call rfl rfl rfl rfl rfl (value_c hT3 (by omega)) (fun r w4 hR => ?_)
    obtain ⟨hb4, hR⟩ := hR
    rw [hg] at hR
    obtain ⟨vs, hvs, rfl⟩ := hR
    have hb04 := hb03.trans (hb4.mono hb03.size)
    have hT4 := hT3.below hb4
    (repeat (first | with_reducible refine W.seq ?_ | with_reducible refine Ops.nil ?_ | with_reducible refine W.region ?_ | refine z_p (kk := ?_) | refine z_a (kk := ?_) | refine z_y (kk := ?_) | refine z_n (kk := ?_) | refine z_u (kk := ?_) | with_reducible refine W.skip ?_ | with_reducible refine W.endb ?_ | with_reducible refine W.block ?_ | refine W.exit rfl ?_ | refine z_l (kk := ?_) | refine z_f (kk := ?_) | refine z_M (kk := ?_) | refine z_m (kk := ?_) | refine z_e (kk := ?_) | refine z_E (kk := ?_) | refine z_d (kk := ?_)))
    refine Ops.call rfl rfl rfl rfl rfl (numbers_c hT4 (by omega) (Sl.below hI.sl hb4)) (fun r w5 hR => ?_)
    obtain ⟨hb5, hR⟩ := hR
    unfold NumbersR at hR
    rw [if_pos ⟨hla, by omega⟩, hg] at hR
    obtain ⟨x, y, hx, hy, rfl⟩ := hR
    have hb05 := hb04.trans (hb5.mono hb04.size)
    have hT5 := hT4.below hb5
    obtain ⟨hA1, hA2⟩ := num_all hTF hall hx hvs
    have hA3 := num_facts hTF hx hy
    generalize vs.getD 0 0 = v at *
    (repeat (first | with_reducible refine W.seq ?_ | with_reducible refine Ops.nil ?_ | with_reducible refine W.region ?_ | refine z_p (kk := ?_) | refine z_a (kk := ?_) | refine z_y (kk := ?_) | refine z_n (kk := ?_) | refine z_u (kk := ?_) | with_reducible refine W.skip ?_ | with_reducible refine W.endb ?_ | with_reducible refine W.block ?_ | refine W.exit rfl ?_ | refine z_l (kk := ?_) | refine z_f (kk := ?_) | refine z_M (kk := ?_) | refine z_m (kk := ?_) | refine z_e (kk := ?_) | refine z_E (kk := ?_) | refine z_d (kk := ?_)))
    refine Ops.cut (fun ρ w' => ρ = [(2, .slice A2 os.length c2), (3, .int .i64 (b' - 100)), (9, .slice At l.length ct), (93, .bool false)] ∧ w' = w5) ?_ ?_
    · rcases Int.lt_or_le v (b' - 100) with h | h
      · have e1 := hA2 h
        have e2 := hA3.2.1.2 e1
        subst e1 e2
        (repeat (first | with_reducible refine W.seq ?_ | with_reducible refine Ops.nil ?_ | with_reducible refine W.region ?_ | refine z_p (kk := ?_) | refine z_a (kk := ?_) | refine z_y (kk := ?_) | refine z_n (kk := ?_) | refine z_u (kk := ?_) | with_reducible refine W.skip ?_ | with_reducible refine W.endb ?_ | with_reducible refine W.block ?_ | refine W.exit rfl ?_ | refine z_l (kk := ?_) | refine z_f (kk := ?_) | refine z_M (kk := ?_) | refine z_m (kk := ?_) | refine z_e (kk := ?_) | refine z_E (kk := ?_) | refine z_d (kk := ?_) | refine Ops.noB rfl rfl rfl rfl (by first | (simp; done) | (simp; omega)) ?_ | refine Ops.yesB rfl rfl rfl rfl (by first | (simp; done) | (simp; omega)) ?_))
        exact W.endl ⟨_, ⟨rfl, rfl⟩, (by repeat (first | exact trivial | refine And.intro rfl ?_))⟩
      · have e1 := hA1 h
        have e2 := hA3.1.1 e1
        subst e1 e2
        (repeat (first | with_reducible refine W.seq ?_ | with_reducible refine Ops.nil ?_ | with_reducible refine W.region ?_ | refine z_p (kk := ?_) | refine z_a (kk := ?_) | refine z_y (kk := ?_) | refine z_n (kk := ?_) | refine z_u (kk := ?_) | with_reducible refine W.skip ?_ | with_reducible refine W.endb ?_ | with_reducible refine W.block ?_ | refine W.exit rfl ?_ | refine z_l (kk := ?_) | refine z_f (kk := ?_) | refine z_M (kk := ?_) | refine z_m (kk := ?_) | refine z_e (kk := ?_) | refine z_E (kk := ?_) | refine z_d (kk := ?_) | refine Ops.noB rfl rfl rfl rfl (by first | (simp; done) | (simp; omega)) ?_ | refine Ops.yesB rfl rfl rfl rfl (by first | (simp; done) | (simp; omega)) ?_))
        exact W.endl ⟨_, ⟨rfl, rfl⟩, (by repeat (first | exact trivial | refine And.intro rfl ?_))⟩
    rintro ρ w6 ⟨rfl, rfl⟩
    refine W.cond rfl (fun hc => ?_) (fun hc => ?_)
    · simp at hc
    (repeat (first | with_reducible refine W.seq ?_ | with_reducible refine Ops.nil ?_ | with_reducible refine W.region ?_ | refine z_p (kk := ?_) | refine z_a (kk := ?_) | refine z_y (kk := ?_) | refine z_n (kk := ?_) | refine z_u (kk := ?_) | with_reducible refine W.skip ?_ | with_reducible refine W.endb ?_ | with_reducible refine W.block ?_ | refine W.exit rfl ?_ | refine z_l (kk := ?_) | refine z_f (kk := ?_) | refine z_M (kk := ?_) | refine z_m (kk := ?_) | refine z_e (kk := ?_) | refine z_E (kk := ?_) | refine z_d (kk := ?_)))
    refine Ops.call rfl rfl rfl rfl rfl (some_c hT5 hn60 (Sl.below ho hb05)) (fun sv w7 hI7 => ?_)
    have hls : Listed l (pickL (someP l os) l.length) := pickL_listed fun i _ h => by simp only [someP, Bool.and_eq_true] at h; exact h.1.1
    have hup := pickL_up (someP l os) l.length
    have hmem : ∀ x ∈ pickL (someP l os) l.length, 0 ≤ x ∧ x < l.length ∧ leafB l x = true := fun x hx => by
      obtain ⟨i, h1, h2, rfl⟩ := pickL_mem.1 hx
      simp only [someP, Bool.and_eq_true] at h2
      exact ⟨by omega, by omega, h2.1.1⟩
    generalize pickL (someP l os) l.length = S2 at *
    have hcap : ∀ A k c, sv = .slice A k c → k ≤ c := fun A k c e => by have h := hI7.own; rw [e] at h; exact own_cap h
    have hsl7 := hI7.sl
    obtain ⟨As, cs, rfl⟩ := Sl.sl hsl7
    have hcap := hcap _ _ _ rfl
    have hb07 := hb05.trans (hI7.bel.mono hb05.size)
    have hT7 := hT5.below hI7.bel
    (repeat (first | with_reducible refine W.seq ?_ | with_reducible refine Ops.nil ?_ | with_reducible refine W.region ?_ | refine z_p (kk := ?_) | refine z_a (kk := ?_) | refine z_y (kk := ?_) | refine z_n (kk := ?_) | refine z_u (kk := ?_) | with_reducible refine W.skip ?_ | with_reducible refine W.endb ?_ | with_reducible refine W.block ?_ | refine W.exit rfl ?_ | refine z_l (kk := ?_) | refine z_f (kk := ?_) | refine z_M (kk := ?_) | refine z_m (kk := ?_) | refine z_e (kk := ?_) | refine z_E (kk := ?_) | refine z_d (kk := ?_)))
    refine Ops.call rfl rfl rfl rfl rfl (numbers_c hT7 (by omega) hsl7) (fun r w8 hR => ?_)
    obtain ⟨hb8, hR⟩ := hR
    unfold NumbersR at hR
    rw [if_pos ⟨hls, by omega⟩, hg] at hR
    obtain ⟨p, q, hp2, hq2, rfl⟩ := hR
    have hb08 := hb07.trans (hb8.mono hb07.size)
    have hT8 := hT7.below hb8
    have hsl8 := Sl.below hsl7 hb8
    (repeat (first | with_reducible refine W.seq ?_ | with_reducible refine Ops.nil ?_ | with_reducible refine W.region ?_ | refine z_p (kk := ?_) | refine z_a (kk := ?_) | refine z_y (kk := ?_) | refine z_n (kk := ?_) | refine z_u (kk := ?_) | with_reducible refine W.skip ?_ | with_reducible refine W.endb ?_ | with_reducible refine W.block ?_ | refine W.exit rfl ?_ | refine z_l (kk := ?_) | refine z_f (kk := ?_) | refine z_M (kk := ?_) | refine z_m (kk := ?_) | refine z_e (kk := ?_) | refine z_E (kk := ?_) | refine z_d (kk := ?_)))
    refine Ops.call rfl rfl rfl rfl rfl (decides_c hT8 (by omega) hsl8) (fun r w9 hR => ?_)
    obtain ⟨hb9, hR⟩ := hR
    unfold DecR at hR
    rw [if_pos ⟨hls, by omega⟩, hg] at hR
    obtain ⟨ds, hds, rfl⟩ := hR
    have hb09 := hb08.trans (hb9.mono hb08.size)
    have hT9 := hT8.below hb9
    have hsl9 := Sl.below hsl8 hb9
    have hB1 := num_dec hTF (by omega) hp2 hds
    have hB2 := num_facts hTF hp2 hq2
    generalize ds.getD 0 0 = dv at *
    have hB3 : decide (b' - 100 ≤ dv) = decide (p = 0) := by rw [decide_eq_decide]; exact hB1.symm
    rw [hB3]
    clear hB3
    (repeat (first | with_reducible refine W.seq ?_ | with_reducible refine Ops.nil ?_ | with_reducible refine W.region ?_ | refine z_p (kk := ?_) | refine z_a (kk := ?_) | refine z_y (kk := ?_) | refine z_n (kk := ?_) | refine z_u (kk := ?_) | with_reducible refine W.skip ?_ | with_reducible refine W.endb ?_ | with_reducible refine W.block ?_ | refine W.exit rfl ?_ | refine z_l (kk := ?_) | refine z_f (kk := ?_) | refine z_M (kk := ?_) | refine z_m (kk := ?_) | refine z_e (kk := ?_) | refine z_E (kk := ?_) | refine z_d (kk := ?_)))
    refine Ops.cut (fun ρ w' => ρ = [(3, .int .i64 (b' - 100)), (9, .slice At l.length ct), (17, .slice As S2.length cs), (18, .int .i64 p), (19, .int .i64 q), (146, .bool false)] ∧ w' = w9) ?_ ?_
    · rcases Int.lt_trichotomy p 0 with h | h | h
      · have e1 : p = -1 := by omega
        have e2 : q = 0 := hB2.2.1.2 e1
        subst e1 e2
        (repeat (first | with_reducible refine W.seq ?_ | with_reducible refine Ops.nil ?_ | with_reducible refine W.region ?_ | refine z_p (kk := ?_) | refine z_a (kk := ?_) | refine z_y (kk := ?_) | refine z_n (kk := ?_) | refine z_u (kk := ?_) | with_reducible refine W.skip ?_ | with_reducible refine W.endb ?_ | with_reducible refine W.block ?_ | refine W.exit rfl ?_ | refine z_l (kk := ?_) | refine z_f (kk := ?_) | refine z_M (kk := ?_) | refine z_m (kk := ?_) | refine z_e (kk := ?_) | refine z_E (kk := ?_) | refine z_d (kk := ?_) | refine Ops.noB rfl rfl rfl rfl (by first | (simp; done) | (simp; omega)) ?_ | refine Ops.yesB rfl rfl rfl rfl (by first | (simp; done) | (simp; omega)) ?_))
        exact W.endl ⟨_, ⟨rfl, rfl⟩, (by repeat (first | exact trivial | refine And.intro rfl ?_))⟩
      · have e2 := hB2.1.1 h
        subst h e2
        (repeat (first | with_reducible refine W.seq ?_ | with_reducible refine Ops.nil ?_ | with_reducible refine W.region ?_ | refine z_p (kk := ?_) | refine z_a (kk := ?_) | refine z_y (kk := ?_) | refine z_n (kk := ?_) | refine z_u (kk := ?_) | with_reducible refine W.skip ?_ | with_reducible refine W.endb ?_ | with_reducible refine W.block ?_ | refine W.exit rfl ?_ | refine z_l (kk := ?_) | refine z_f (kk := ?_) | refine z_M (kk := ?_) | refine z_m (kk := ?_) | refine z_e (kk := ?_) | refine z_E (kk := ?_) | refine z_d (kk := ?_) | refine Ops.noB rfl rfl rfl rfl (by first | (simp; done) | (simp; omega)) ?_ | refine Ops.yesB rfl rfl rfl rfl (by first | (simp; done) | (simp; omega)) ?_))
        exact W.endl ⟨_, ⟨rfl, rfl⟩, (by repeat (first | exact trivial | refine And.intro rfl ?_))⟩
      · have e1 : decide (p = 0) = false := by simp; omega
        have e2 : 0 < q := by omega
        rw [e1]
        (repeat (first | with_reducible refine W.seq ?_ | with_reducible refine Ops.nil ?_ | with_reducible refine W.region ?_ | refine z_p (kk := ?_) | refine z_a (kk := ?_) | refine z_y (kk := ?_) | refine z_n (kk := ?_) | refine z_u (kk := ?_) | with_reducible refine W.skip ?_ | with_reducible refine W.endb ?_ | with_reducible refine W.block ?_ | refine W.exit rfl ?_ | refine z_l (kk := ?_) | refine z_f (kk := ?_) | refine z_M (kk := ?_) | refine z_m (kk := ?_) | refine z_e (kk := ?_) | refine z_E (kk := ?_) | refine z_d (kk := ?_) | refine Ops.noB rfl rfl rfl rfl (by first | (simp; done) | (simp; omega)) ?_ | refine Ops.yesB rfl rfl rfl rfl (by first | (simp; done) | (simp; omega)) ?_))
        exact W.endl ⟨_, ⟨rfl, rfl⟩, (by repeat (first | exact trivial | refine And.intro rfl ?_))⟩
    rintro ρ w10 ⟨rfl, rfl⟩
    refine W.cond rfl (fun hc => ?_) (fun hc => ?_)
    · simp at hc
    (repeat (first | with_reducible refine W.seq ?_ | with_reducible refine Ops.nil ?_ | with_reducible refine W.region ?_ | refine z_p (kk := ?_) | refine z_a (kk := ?_) | refine z_y (kk := ?_) | refine z_n (kk := ?_) | refine z_u (kk := ?_) | with_reducible refine W.skip ?_ | with_reducible refine W.endb ?_ | with_reducible refine W.block ?_ | refine W.exit rfl ?_ | refine z_l (kk := ?_) | refine z_f (kk := ?_) | refine z_M (kk := ?_) | refine z_m (kk := ?_) | refine z_e (kk := ?_) | refine z_E (kk := ?_) | refine z_d (kk := ?_)))
    refine W.cond rfl (fun hc => ?_) (fun hc => ?_)
    · have hnil : S2 = [] := List.length_eq_zero_iff.1 (by simpa using hc)
      subst hnil
      have n1 := num_none hTF hp2
      have n2 := num_none hTF hq2
      have hp0 : 0 < p := by omega
      have hq0 : 0 < q := by omega
      (repeat (first | with_reducible refine W.seq ?_ | with_reducible refine Ops.nil ?_ | with_reducible refine W.region ?_ | refine z_p (kk := ?_) | refine z_a (kk := ?_) | refine z_y (kk := ?_) | refine z_n (kk := ?_) | refine z_u (kk := ?_) | with_reducible refine W.skip ?_ | with_reducible refine W.endb ?_ | with_reducible refine W.block ?_ | refine W.exit rfl ?_ | refine z_l (kk := ?_) | refine z_f (kk := ?_) | refine z_M (kk := ?_) | refine z_m (kk := ?_) | refine z_e (kk := ?_) | refine z_E (kk := ?_) | refine z_d (kk := ?_) | refine Ops.noB rfl rfl rfl rfl (by first | (simp; done) | (simp; omega)) ?_ | refine Ops.yesB rfl rfl rfl rfl (by first | (simp; done) | (simp; omega)) ?_))
      refine Ops.call rfl rfl rfl rfl rfl (awake_c _) (fun r w11 hR => ?_)
      obtain ⟨rfl, hb11⟩ := hR
      (repeat (first | with_reducible refine W.seq ?_ | with_reducible refine Ops.nil ?_ | with_reducible refine W.region ?_ | refine z_p (kk := ?_) | refine z_a (kk := ?_) | refine z_y (kk := ?_) | refine z_n (kk := ?_) | refine z_u (kk := ?_) | with_reducible refine W.skip ?_ | with_reducible refine W.endb ?_ | with_reducible refine W.block ?_ | refine W.exit rfl ?_ | refine z_l (kk := ?_) | refine z_f (kk := ?_) | refine z_M (kk := ?_) | refine z_m (kk := ?_) | refine z_e (kk := ?_) | refine z_E (kk := ?_) | refine z_d (kk := ?_) | refine Ops.noB rfl rfl rfl rfl (by first | (simp; done) | (simp; omega)) ?_ | refine Ops.yesB rfl rfl rfl rfl (by first | (simp; done) | (simp; omega)) ?_))
      exact W.fret rfl ⟨rfl, hb09.trans (hb11.mono hb09.size)⟩
    · have hne : 0 < S2.length := Nat.pos_of_ne_zero (fun e => by rw [e] at hc; simp at hc)
      have hls1 : Listed l (S2.drop 1) := up_listed (hup.sublist (List.drop_sublist 1 S2)) fun x hx => hmem x (List.mem_of_mem_drop hx)
      (repeat (first | with_reducible refine W.seq ?_ | with_reducible refine Ops.nil ?_ | with_reducible refine W.region ?_ | refine z_p (kk := ?_) | refine z_a (kk := ?_) | refine z_y (kk := ?_) | refine z_n (kk := ?_) | refine z_u (kk := ?_) | with_reducible refine W.skip ?_ | with_reducible refine W.endb ?_ | with_reducible refine W.block ?_ | refine W.exit rfl ?_ | refine z_l (kk := ?_) | refine z_f (kk := ?_) | refine z_M (kk := ?_) | refine z_m (kk := ?_) | refine z_e (kk := ?_) | refine z_E (kk := ?_) | refine z_d (kk := ?_)))
      refine Ops.slL (m := S2.length) (h := 1) rfl rfl rfl rfl rfl rfl rfl (by decide) (by omega) hcap (fun A' c' hA' => ?_)
      have hsl1 := sl_drop (h := 1) (c' := c') hsl9 hA'
      (repeat (first | with_reducible refine W.seq ?_ | with_reducible refine Ops.nil ?_ | with_reducible refine W.region ?_ | refine z_p (kk := ?_) | refine z_a (kk := ?_) | refine z_y (kk := ?_) | refine z_n (kk := ?_) | refine z_u (kk := ?_) | with_reducible refine W.skip ?_ | with_reducible refine W.endb ?_ | with_reducible refine W.block ?_ | refine W.exit rfl ?_ | refine z_l (kk := ?_) | refine z_f (kk := ?_) | refine z_M (kk := ?_) | refine z_m (kk := ?_) | refine z_e (kk := ?_) | refine z_E (kk := ?_) | refine z_d (kk := ?_)))
      refine Ops.call rfl rfl rfl rfl rfl (numbers_c hT9 (by omega) hsl1) (fun r w11 hR => ?_)
      obtain ⟨hb11, hR⟩ := hR
      unfold NumbersR at hR
      rw [if_pos ⟨hls1, by omega⟩, hg] at hR
      obtain ⟨u, z, hu, hz, rfl⟩ := hR
      have hb011 := hb09.trans (hb11.mono hb09.size)
      have hC1 := num_facts hTF hu hz
      have hC2 := num_mono hTF hu hp2 fun x hx => List.mem_of_mem_drop hx
      have hC3 := num_mono hTF hz hq2 fun x hx => List.mem_of_mem_drop hx
      rcases Int.lt_trichotomy u 0 with h | h | h
      · have e1 : u = -1 := by omega
        have e2 : z = 0 := hC1.2.1.2 e1
        have e3 := hC3 e2
        have e4 := hB2.2.1.1 e3
        subst e1 e2 e3 e4
        (repeat (first | with_reducible refine W.seq ?_ | with_reducible refine Ops.nil ?_ | with_reducible refine W.region ?_ | refine z_p (kk := ?_) | refine z_a (kk := ?_) | refine z_y (kk := ?_) | refine z_n (kk := ?_) | refine z_u (kk := ?_) | with_reducible refine W.skip ?_ | with_reducible refine W.endb ?_ | with_reducible refine W.block ?_ | refine W.exit rfl ?_ | refine z_l (kk := ?_) | refine z_f (kk := ?_) | refine z_M (kk := ?_) | refine z_m (kk := ?_) | refine z_e (kk := ?_) | refine z_E (kk := ?_) | refine z_d (kk := ?_) | refine Ops.noB rfl rfl rfl rfl (by first | (simp; done) | (simp; omega)) ?_ | refine Ops.yesB rfl rfl rfl rfl (by first | (simp; done) | (simp; omega)) ?_))
        refine Ops.call rfl rfl rfl rfl rfl (awake_c _) (fun r w12 hR => ?_)
        obtain ⟨rfl, hb12⟩ := hR
        (repeat (first | with_reducible refine W.seq ?_ | with_reducible refine Ops.nil ?_ | with_reducible refine W.region ?_ | refine z_p (kk := ?_) | refine z_a (kk := ?_) | refine z_y (kk := ?_) | refine z_n (kk := ?_) | refine z_u (kk := ?_) | with_reducible refine W.skip ?_ | with_reducible refine W.endb ?_ | with_reducible refine W.block ?_ | refine W.exit rfl ?_ | refine z_l (kk := ?_) | refine z_f (kk := ?_) | refine z_M (kk := ?_) | refine z_m (kk := ?_) | refine z_e (kk := ?_) | refine z_E (kk := ?_) | refine z_d (kk := ?_) | refine Ops.noB rfl rfl rfl rfl (by first | (simp; done) | (simp; omega)) ?_ | refine Ops.yesB rfl rfl rfl rfl (by first | (simp; done) | (simp; omega)) ?_))
        exact W.fret rfl ⟨rfl, hb011.trans (hb12.mono hb011.size)⟩
      · have e2 := hC1.1.1 h
        have e3 := hC2 h
        have e4 := hB2.1.1 e3
        subst h e2 e3 e4
        (repeat (first | with_reducible refine W.seq ?_ | with_reducible refine Ops.nil ?_ | with_reducible refine W.region ?_ | refine z_p (kk := ?_) | refine z_a (kk := ?_) | refine z_y (kk := ?_) | refine z_n (kk := ?_) | refine z_u (kk := ?_) | with_reducible refine W.skip ?_ | with_reducible refine W.endb ?_ | with_reducible refine W.block ?_ | refine W.exit rfl ?_ | refine z_l (kk := ?_) | refine z_f (kk := ?_) | refine z_M (kk := ?_) | refine z_m (kk := ?_) | refine z_e (kk := ?_) | refine z_E (kk := ?_) | refine z_d (kk := ?_) | refine Ops.noB rfl rfl rfl rfl (by first | (simp; done) | (simp; omega)) ?_ | refine Ops.yesB rfl rfl rfl rfl (by first | (simp; done) | (simp; omega)) ?_))
        refine Ops.call rfl rfl rfl rfl rfl (awake_c _) (fun r w12 hR => ?_)
        obtain ⟨rfl, hb12⟩ := hR
        (repeat (first | with_reducible refine W.seq ?_ | with_reducible refine Ops.nil ?_ | with_reducible refine W.region ?_ | refine z_p (kk := ?_) | refine z_a (kk := ?_) | refine z_y (kk := ?_) | refine z_n (kk := ?_) | refine z_u (kk := ?_) | with_reducible refine W.skip ?_ | with_reducible refine W.endb ?_ | with_reducible refine W.block ?_ | refine W.exit rfl ?_ | refine z_l (kk := ?_) | refine z_f (kk := ?_) | refine z_M (kk := ?_) | refine z_m (kk := ?_) | refine z_e (kk := ?_) | refine z_E (kk := ?_) | refine z_d (kk := ?_) | refine Ops.noB rfl rfl rfl rfl (by first | (simp; done) | (simp; omega)) ?_ | refine Ops.yesB rfl rfl rfl rfl (by first | (simp; done) | (simp; omega)) ?_))
        exact W.fret rfl ⟨rfl, hb011.trans (hb12.mono hb011.size)⟩
      · have e2 : 0 ≤ z := by omega
        (repeat (first | with_reducible refine W.seq ?_ | with_reducible refine Ops.nil ?_ | with_reducible refine W.region ?_ | refine z_p (kk := ?_) | refine z_a (kk := ?_) | refine z_y (kk := ?_) | refine z_n (kk := ?_) | refine z_u (kk := ?_) | with_reducible refine W.skip ?_ | with_reducible refine W.endb ?_ | with_reducible refine W.block ?_ | refine W.exit rfl ?_ | refine z_l (kk := ?_) | refine z_f (kk := ?_) | refine z_M (kk := ?_) | refine z_m (kk := ?_) | refine z_e (kk := ?_) | refine z_E (kk := ?_) | refine z_d (kk := ?_) | refine Ops.noB rfl rfl rfl rfl (by first | (simp; done) | (simp; omega)) ?_ | refine Ops.yesB rfl rfl rfl rfl (by first | (simp; done) | (simp; omega)) ?_))
        exact W.fret rfl ⟨rfl, hb011⟩
end Go.Proofs.Ytdiljpnfochndaa
namespace Go.Proofs.Ytdiljpnfochndaa
open Go Go.RowKit Go.Proofs.Ytdiljpnfochndaa.VW
open Go.Proofs.Ytdiljpnfochndaa.HP (Nd kid wor leafB rd evB gameOf gameOf_TF ValP far TF Dn k_)
attribute [local irreducible] W Ops
theorem evB_kid {l : List Nd} {dep : List Int} (hT : TF l dep) {i j : Nat} (hi : i < l.length) (hj : j < (kid l i).length) : evB dep ((kid l i).getD j 0) = !evB dep i := by
  have h1 := hT.kdep i j hi hj
  have h2 := hT.dbd i
  simp only [k_] at h1
  unfold evB
  rw [h1]
  simp only [rd, Int.toNat_natCast]
  generalize dep.getD i 0 = d at *
  rw [Int.tmod_eq_emod_of_nonneg (by omega), Int.tmod_eq_emod_of_nonneg (by omega)]
  by_cases h : d % 2 = 0
  · rw [h, show (d + 1) % 2 = 1 by omega]; rfl
  · rw [show d % 2 = 1 by omega, show (d + 1) % 2 = 0 by omega]; rfl
/-- Which nodes are known after j children of node i. -/
def EvI (l : List Nd) (dep : List Int) (i j : Nat) (bs : List Bool) : Prop := bs.length = l.length ∧ bs.getD 0 false = true ∧ ∀ a b, Dn i j a b → b < (kid l a).length → bs.getD (k_ l a b).toNat false = evB dep (k_ l a b)
theorem EvI.step {l : List Nd} {dep : List Int} (hT : TF l dep) {i j : Nat} {bs : List Bool} (hi : i < l.length) (hj : j < (kid l i).length) (h : EvI l dep i j bs) : EvI l dep i (j + 1) (bs.set ((kid l i).getD j 0).toNat (!evB dep i)) := by
  obtain ⟨h1, h2, h3⟩ := h
  have hk := hT.kin i j hi hj
  simp only [k_] at hk
  refine ⟨by simpa using h1, by rw [lgetD_set_ne (by omega)]; exact h2, fun a b hd hb => ?_⟩
  by_cases e : a = i ∧ b = j
  · obtain ⟨rfl, rfl⟩ := e
    unfold k_
    rw [lgetD_set_eq (by omega), evB_kid hT hi hj]
  · have hd' : Dn i j a b := by unfold Dn at *; omega
    have ha : a < l.length := by unfold Dn at hd'; omega
    have hk2 := hT.kin a b ha hb
    rw [lgetD_set_ne (fun e2 => e (hT.inj a b i j ha hb hi hj (by simp only [k_] at *; omega)))]
    exact h3 a b hd' hb
theorem EvI.at_ {l : List Nd} {dep : List Int} (hT : TF l dep) {i j : Nat} {bs : List Bool} (hi : i < l.length) (h : EvI l dep i j bs) (h0 : dep.getD 0 0 = 0) : bs.getD i false = evB dep i := by
  obtain ⟨h1, h2, h3⟩ := h
  by_cases e : i = 0
  · subst e
    rw [h2]
    unfold evB
    simp only [rd]
    rw [show ((0 : Nat) : Int).toNat = 0 from rfl, h0]
    rfl
  · obtain ⟨a, b, ha, hb, hk⟩ := hT.cov i (by omega) hi
    have := hT.kin a b ha hb
    have := h3 a b (.inl (by omega)) hb
    rw [hk] at this
    simpa using this
theorem even_c {w : World} {v : Value} {l : List Nd} {dep : List Int} (hTr : TreeM w v l) (hT : TF l dep) :
    Calls Try.prog 52 #[v] w (Ret fun r w' => ∃ bs : List Bool, OI 4 Value.bool w w' r bs ∧ bs.length = l.length ∧ ∀ i : Nat, i < l.length → bs.getD i false = evB dep i) := by
  obtain ⟨At, ct, rfl⟩ := hTr.sl
  have hn := hT.n60
  have hn1 := hT.n1
  have hd0 : dep.getD 0 0 = 0 := by have := hT.dbd 0; omega
  refine calls_W (vs := [_]) Try.func52 rfl (by kernel_rfl) rfl ?_
  (repeat (first | with_reducible refine W.seq ?_ | with_reducible refine Ops.nil ?_ | with_reducible refine W.region ?_ | refine z_p (kk := ?_) | refine z_a (kk := ?_) | refine z_y (kk := ?_) | refine z_n (kk := ?_) | refine z_u (kk := ?_) | with_reducible refine W.skip ?_ | with_reducible refine W.endb ?_ | with_reducible refine W.block ?_ | refine W.exit rfl ?_ | refine z_l (kk := ?_) | refine z_f (kk := ?_) | refine z_M (kk := ?_) | refine z_m (kk := ?_) | refine z_e (kk := ?_) | refine z_E (kk := ?_) | refine z_d (kk := ?_)))
  refine Ops.mkS rfl rfl rfl rfl rfl rfl rfl rfl rfl (by omega) (by simp; omega) (fun w1 dr hdr k1 hdl hown => ?_)
  simp only [Int.toNat_natCast] at hown ⊢
  have hb1 : Below w.heap.size w w1 := k1.below (Nat.le_refl _) (fun _ _ e => e)
  have hm : (madeCells (Value.bool false).cells (l.length * 1)).toList = (List.replicate l.length false).map Value.bool := by
    rw [madeCells_one rfl, Nat.mul_one, List.map_replicate]
  have hO1 : OI 4 Value.bool w w1 (.slice (some ⟨dr, 0, none⟩) l.length l.length) (List.replicate l.length false) := by
    refine ⟨hb1, ?_, fun k hk => by simp [Value.ownBlock] at hk; omega⟩
    rw [← hm, List.length_replicate]
    exact hown
  (repeat (first | with_reducible refine W.seq ?_ | with_reducible refine Ops.nil ?_ | with_reducible refine W.region ?_ | refine z_p (kk := ?_) | refine z_a (kk := ?_) | refine z_y (kk := ?_) | refine z_n (kk := ?_) | refine z_u (kk := ?_) | with_reducible refine W.skip ?_ | with_reducible refine W.endb ?_ | with_reducible refine W.block ?_ | refine W.exit rfl ?_ | refine z_l (kk := ?_) | refine z_f (kk := ?_) | refine z_M (kk := ?_) | refine z_m (kk := ?_) | refine z_e (kk := ?_) | refine z_E (kk := ?_) | refine z_d (kk := ?_)))
  refine Ops.wrS rfl rfl rfl rfl rfl rfl rfl rfl rfl rfl rfl rfl (by simp) rfl hO1.own (by omega) (by simp; omega) (fun w2 p hown2 k2 _ => ?_)
  have hO2 : OI 4 Value.bool w w2 (.slice (some ⟨dr, 0, none⟩) l.length l.length) ((List.replicate l.length false).set 0 true) :=
    ⟨Below.at_ hb1 k2 (fun i hi => hO1.ge i hi), by rw [List.length_set, List.map_set]; exact hown2, hO1.ge⟩
  have hE2 : EvI l dep 0 0 ((List.replicate l.length false).set 0 true) := ⟨by simp, lgetD_set_eq (by simp; omega), fun a b hd => by unfold Dn at hd; omega⟩
  generalize (List.replicate l.length false).set 0 true = bs2 at *
  clear hO1 hown hm hown2 k2 k1
  (repeat (first | with_reducible refine W.seq ?_ | with_reducible refine Ops.nil ?_ | with_reducible refine W.region ?_ | refine z_p (kk := ?_) | refine z_a (kk := ?_) | refine z_y (kk := ?_) | refine z_n (kk := ?_) | refine z_u (kk := ?_) | with_reducible refine W.skip ?_ | with_reducible refine W.endb ?_ | with_reducible refine W.block ?_ | refine W.exit rfl ?_ | refine z_l (kk := ?_) | refine z_f (kk := ?_) | refine z_M (kk := ?_) | refine z_m (kk := ?_) | refine z_e (kk := ?_) | refine z_E (kk := ?_) | refine z_d (kk := ?_)))
  refine W.loop (fun m ρ w3 => ∃ (i : Nat) (bs : List Bool), m = l.length - i ∧ i ≤ l.length ∧ ρ = [(0, .slice At l.length ct), (3, .slice (some ⟨dr, 0, none⟩) l.length l.length), (4, .int .i64 i)] ∧ OI 4 Value.bool w w3 (.slice (some ⟨dr, 0, none⟩) l.length l.length) bs ∧ EvI l dep i 0 bs)
    ⟨_, _, ⟨0, _, rfl, Nat.zero_le _, rfl, hO2, hE2⟩, (by repeat (first | exact trivial | refine And.intro rfl ?_))⟩ ?_
  clear hO2 hE2
  rintro m ρ w3 ⟨i, bs, rfl, hi, rfl, hO, hE⟩
  (repeat (first | with_reducible refine W.seq ?_ | with_reducible refine Ops.nil ?_ | with_reducible refine W.region ?_ | refine z_p (kk := ?_) | refine z_a (kk := ?_) | refine z_y (kk := ?_) | refine z_n (kk := ?_) | refine z_u (kk := ?_) | with_reducible refine W.skip ?_ | with_reducible refine W.endb ?_ | with_reducible refine W.block ?_ | refine W.exit rfl ?_ | refine z_l (kk := ?_) | refine z_f (kk := ?_) | refine z_M (kk := ?_) | refine z_m (kk := ?_) | refine z_e (kk := ?_) | refine z_E (kk := ?_) | refine z_d (kk := ?_)))
  refine W.cond rfl (fun hc => ?_) (fun hc => ?_)
  · have hlt : i < l.length := by simp at hc; omega
    (repeat (first | with_reducible refine W.seq ?_ | with_reducible refine Ops.nil ?_ | with_reducible refine W.region ?_ | refine z_p (kk := ?_) | refine z_a (kk := ?_) | refine z_y (kk := ?_) | refine z_n (kk := ?_) | refine z_u (kk := ?_) | with_reducible refine W.skip ?_ | with_reducible refine W.endb ?_ | with_reducible refine W.block ?_ | refine W.exit rfl ?_ | refine z_l (kk := ?_) | refine z_f (kk := ?_) | refine z_M (kk := ?_) | refine z_m (kk := ?_) | refine z_e (kk := ?_) | refine z_E (kk := ?_) | refine z_d (kk := ?_)))
    refine W.loop (fun m ρ w4 => ∃ (j : Nat) (bs : List Bool), m = (kid l i).length - j ∧ j ≤ (kid l i).length ∧ ρ = [(0, .slice At l.length ct), (3, .slice (some ⟨dr, 0, none⟩) l.length l.length), (4, .int .i64 i), (5, .int .i64 j)] ∧ OI 4 Value.bool w w4 (.slice (some ⟨dr, 0, none⟩) l.length l.length) bs ∧ EvI l dep i j bs)
      ⟨_, _, ⟨0, _, rfl, Nat.zero_le _, rfl, hO, hE⟩, (by repeat (first | exact trivial | refine And.intro rfl ?_))⟩ ?_
    rintro m ρ w4 ⟨j, bs, rfl, hj, rfl, hO, hE⟩
    have hkl := hT.klen i hlt
    (repeat (first | with_reducible refine W.seq ?_ | with_reducible refine Ops.nil ?_ | with_reducible refine W.region ?_ | refine z_p (kk := ?_) | refine z_a (kk := ?_) | refine z_y (kk := ?_) | refine z_n (kk := ?_) | refine z_u (kk := ?_) | with_reducible refine W.skip ?_ | with_reducible refine W.endb ?_ | with_reducible refine W.block ?_ | refine W.exit rfl ?_ | refine z_l (kk := ?_) | refine z_f (kk := ?_) | refine z_M (kk := ?_) | refine z_m (kk := ?_) | refine z_e (kk := ?_) | refine z_E (kk := ?_) | refine z_d (kk := ?_)))
    refine Ops.rdK rfl rfl rfl rfl rfl rfl rfl rfl rfl rfl rfl rfl rfl rfl rfl hTr hO.bel (by omega) (by omega) (fun cv p q hcv => ?_)
    obtain ⟨Ac, cc, rfl⟩ := Sl.sl hcv
    (repeat (first | with_reducible refine W.seq ?_ | with_reducible refine Ops.nil ?_ | with_reducible refine W.region ?_ | refine z_p (kk := ?_) | refine z_a (kk := ?_) | refine z_y (kk := ?_) | refine z_n (kk := ?_) | refine z_u (kk := ?_) | with_reducible refine W.skip ?_ | with_reducible refine W.endb ?_ | with_reducible refine W.block ?_ | refine W.exit rfl ?_ | refine z_l (kk := ?_) | refine z_f (kk := ?_) | refine z_M (kk := ?_) | refine z_m (kk := ?_) | refine z_e (kk := ?_) | refine z_E (kk := ?_) | refine z_d (kk := ?_)))
    refine W.cond rfl (fun hc => ?_) (fun hc => ?_)
    · have hjl : j < (kid l i).length := by simp at hc; omega
      have hkin := hT.kin i j hlt hjl
      simp only [k_] at hkin
      have hbi := hE.at_ hT hlt hd0
      have hst := hE.step hT hlt hjl
      have hel := hE.1
      (repeat (first | with_reducible refine W.seq ?_ | with_reducible refine Ops.nil ?_ | with_reducible refine W.region ?_ | refine z_p (kk := ?_) | refine z_a (kk := ?_) | refine z_y (kk := ?_) | refine z_n (kk := ?_) | refine z_u (kk := ?_) | with_reducible refine W.skip ?_ | with_reducible refine W.endb ?_ | with_reducible refine W.block ?_ | refine W.exit rfl ?_ | refine z_l (kk := ?_) | refine z_f (kk := ?_) | refine z_M (kk := ?_) | refine z_m (kk := ?_) | refine z_e (kk := ?_) | refine z_E (kk := ?_) | refine z_d (kk := ?_)))
      refine W.tail' 14 rfl (by kernel_rfl) (fun w5 k5 _ => ?_)
      have hO5 := hO.kp k5 (fun _ e => e.elim)
      (repeat (first | with_reducible refine W.seq ?_ | with_reducible refine Ops.nil ?_ | with_reducible refine W.region ?_ | refine z_p (kk := ?_) | refine z_a (kk := ?_) | refine z_y (kk := ?_) | refine z_n (kk := ?_) | refine z_u (kk := ?_) | with_reducible refine W.skip ?_ | with_reducible refine W.endb ?_ | with_reducible refine W.block ?_ | refine W.exit rfl ?_ | refine z_l (kk := ?_) | refine z_f (kk := ?_) | refine z_M (kk := ?_) | refine z_m (kk := ?_) | refine z_e (kk := ?_) | refine z_E (kk := ?_) | refine z_d (kk := ?_)))
      refine Ops.rdK rfl rfl rfl rfl rfl rfl rfl rfl rfl rfl rfl rfl rfl rfl rfl hTr hO5.bel (by omega) (by omega) (fun cv2 p q hcv2 => ?_)
      (repeat (first | with_reducible refine W.seq ?_ | with_reducible refine Ops.nil ?_ | with_reducible refine W.region ?_ | refine z_p (kk := ?_) | refine z_a (kk := ?_) | refine z_y (kk := ?_) | refine z_n (kk := ?_) | refine z_u (kk := ?_) | with_reducible refine W.skip ?_ | with_reducible refine W.endb ?_ | with_reducible refine W.block ?_ | refine W.exit rfl ?_ | refine z_l (kk := ?_) | refine z_f (kk := ?_) | refine z_M (kk := ?_) | refine z_m (kk := ?_) | refine z_e (kk := ?_) | refine z_E (kk := ?_) | refine z_d (kk := ?_)))
      refine Ops.rdS (enc := Value.int .i64) (z := (0 : Int)) rfl rfl rfl rfl rfl rfl rfl rfl rfl rfl rfl (Sl.below hcv2 hO5.bel) (by omega) (by omega) (fun p => ?_)
      simp only [Int.toNat_natCast]
      generalize (kid l i).getD j 0 = cj at *
      (repeat (first | with_reducible refine W.seq ?_ | with_reducible refine Ops.nil ?_ | with_reducible refine W.region ?_ | refine z_p (kk := ?_) | refine z_a (kk := ?_) | refine z_y (kk := ?_) | refine z_n (kk := ?_) | refine z_u (kk := ?_) | with_reducible refine W.skip ?_ | with_reducible refine W.endb ?_ | with_reducible refine W.block ?_ | refine W.exit rfl ?_ | refine z_l (kk := ?_) | refine z_f (kk := ?_) | refine z_M (kk := ?_) | refine z_m (kk := ?_) | refine z_e (kk := ?_) | refine z_E (kk := ?_) | refine z_d (kk := ?_)))
      refine Ops.rdS (enc := Value.bool) (z := false) rfl rfl rfl rfl rfl rfl rfl rfl rfl rfl rfl hO5.sl (by omega) (by omega) (fun p => ?_)
      simp only [Int.toNat_natCast]
      rw [hbi]
      (repeat (first | with_reducible refine W.seq ?_ | with_reducible refine Ops.nil ?_ | with_reducible refine W.region ?_ | refine z_p (kk := ?_) | refine z_a (kk := ?_) | refine z_y (kk := ?_) | refine z_n (kk := ?_) | refine z_u (kk := ?_) | with_reducible refine W.skip ?_ | with_reducible refine W.endb ?_ | with_reducible refine W.block ?_ | refine W.exit rfl ?_ | refine z_l (kk := ?_) | refine z_f (kk := ?_) | refine z_M (kk := ?_) | refine z_m (kk := ?_) | refine z_e (kk := ?_) | refine z_E (kk := ?_) | refine z_d (kk := ?_)))
      refine Ops.nilS rfl ?_
      refine Ops.wrS rfl rfl rfl rfl rfl rfl rfl rfl rfl rfl rfl rfl (by simp) rfl hO5.own (by omega) (by omega) (fun w6 p hown6 k6 _ => ?_)
      have hO6 : OI 4 Value.bool w w6 (.slice (some ⟨dr, 0, none⟩) l.length l.length) (bs.set cj.toNat (!evB dep i)) :=
        ⟨Below.at_ hO5.bel k6 (fun i hi => hO5.ge i hi), by rw [List.length_set, List.map_set]; exact hown6, hO5.ge⟩
      (repeat (first | with_reducible refine W.seq ?_ | with_reducible refine Ops.nil ?_ | with_reducible refine W.region ?_ | refine z_p (kk := ?_) | refine z_a (kk := ?_) | refine z_y (kk := ?_) | refine z_n (kk := ?_) | refine z_u (kk := ?_) | with_reducible refine W.skip ?_ | with_reducible refine W.endb ?_ | with_reducible refine W.block ?_ | refine W.exit rfl ?_ | refine z_l (kk := ?_) | refine z_f (kk := ?_) | refine z_M (kk := ?_) | refine z_m (kk := ?_) | refine z_e (kk := ?_) | refine z_E (kk := ?_) | refine z_d (kk := ?_)))
      exact W.endl ⟨_, _, ⟨⟨j + 1, _, rfl, by omega, rfl, hO6, hst⟩, by omega⟩, (by repeat (first | exact trivial | refine And.intro rfl ?_))⟩
    · have hjl : j = (kid l i).length := by simp at hc; omega
      subst hjl
      have hE' : EvI l dep (i + 1) 0 bs := ⟨hE.1, hE.2.1, fun a b hd hb => hE.2.2 a b (by unfold Dn at *; by_cases e : a = i; subst e; exact .inr ⟨rfl, hb⟩; omega) hb⟩
      (repeat (first | with_reducible refine W.seq ?_ | with_reducible refine Ops.nil ?_ | with_reducible refine W.region ?_ | refine z_p (kk := ?_) | refine z_a (kk := ?_) | refine z_y (kk := ?_) | refine z_n (kk := ?_) | refine z_u (kk := ?_) | with_reducible refine W.skip ?_ | with_reducible refine W.endb ?_ | with_reducible refine W.block ?_ | refine W.exit rfl ?_ | refine z_l (kk := ?_) | refine z_f (kk := ?_) | refine z_M (kk := ?_) | refine z_m (kk := ?_) | refine z_e (kk := ?_) | refine z_E (kk := ?_) | refine z_d (kk := ?_)))
      exact W.endl ⟨_, _, ⟨⟨i + 1, _, rfl, by omega, rfl, hO, hE'⟩, by omega⟩, (by repeat (first | exact trivial | refine And.intro rfl ?_))⟩
  · have hlt : i = l.length := by simp at hc; omega
    subst hlt
    (repeat (first | with_reducible refine W.seq ?_ | with_reducible refine Ops.nil ?_ | with_reducible refine W.region ?_ | refine z_p (kk := ?_) | refine z_a (kk := ?_) | refine z_y (kk := ?_) | refine z_n (kk := ?_) | refine z_u (kk := ?_) | with_reducible refine W.skip ?_ | with_reducible refine W.endb ?_ | with_reducible refine W.block ?_ | refine W.exit rfl ?_ | refine z_l (kk := ?_) | refine z_f (kk := ?_) | refine z_M (kk := ?_) | refine z_m (kk := ?_) | refine z_e (kk := ?_) | refine z_E (kk := ?_) | refine z_d (kk := ?_)))
    refine W.fret rfl ⟨bs, hO, hE.1, fun c hc => ?_⟩
    exact EvI.at_ hT (i := c) (j := 0) hc ⟨hE.1, hE.2.1, fun a b hd hb => hE.2.2 a b (by unfold Dn at *; omega) hb⟩ hd0
end Go.Proofs.Ytdiljpnfochndaa
/- The statements about proofs: what is decided, and by how many leaves. -/
namespace Go.Proofs.Ytdiljpnfochndaa.HP
theorem tree_ind {l : List Nd} {dep : List Int} (hT : TF l dep) {Q : Nat → Prop}
    (h : ∀ j : Nat, j < l.length → (∀ c ∈ kid l j, ∃ i : Nat, c = i ∧ i < l.length ∧ Q i) → Q j) : ∀ j : Nat, j < l.length → Q j := by
  have key : ∀ d j : Nat, l.length - j = d → j < l.length → Q j := by
    intro d
    induction d using Nat.strongRecOn with
    | _ d ih =>
      intro j hd hj
      refine h j hj fun c hc => ?_
      obtain ⟨h1, h2⟩ := mem_kid hT hj hc
      exact ⟨c.toNat, by omega, by omega, ih (l.length - c.toNat) (by omega) c.toNat rfl (by omega)⟩
  exact fun j hj => key _ j rfl hj
theorem maxL_le {cs : List Int} {g : Int → Int} {b : Int} (h0 : cs ≠ []) : maxL (cs.map g) ≤ b ↔ ∀ c ∈ cs, g c ≤ b := by
  have := maxL_ge (g := g) (b := b + 1) h0
  constructor
  · intro h c hc
    rcases Int.lt_or_le b (g c) with h1 | h1
    · have := this.2 ⟨c, hc, h1⟩; omega
    · exact h1
  · intro h
    rcases Int.lt_or_le b (maxL (cs.map g)) with h1 | h1
    · obtain ⟨c, hc, h2⟩ := this.1 h1
      have := h c hc
      omega
    · exact h1
theorem minL_le {cs : List Int} {g : Int → Int} {b : Int} (h0 : cs ≠ []) : minL (cs.map g) ≤ b ↔ ∃ c ∈ cs, g c ≤ b := by
  have := minL_ge (g := g) (b := b + 1) h0
  constructor
  · intro h
    by_cases hx : ∃ c ∈ cs, g c ≤ b
    · exact hx
    · have := this.2 fun c hc => by
        rcases Int.lt_or_le b (g c) with h1 | h1
        · exact h1
        · exact absurd ⟨c, hc, h1⟩ hx
      omega
  · rintro ⟨c, hc, h⟩
    rcases Int.lt_or_le b (minL (cs.map g)) with h1 | h1
    · have := this.1 h1 c hc; omega
    · exact h1
theorem leaf_ne {l : List Nd} {j : Int} (h : ¬ leafB l j = true) : kid l j ≠ [] := fun e => h (by unfold leafB; rw [e]; rfl)
theorem val_thr {l : List Nd} {dep : List Int} (hT : TF l dep) {f g : Int → Int} {vs us : List Int} (hv : ValP l dep f vs) (hu : ValP l dep g us) {b c : Int} (h : ∀ i : Nat, i < l.length → leafB l i = true → (b ≤ f i ↔ c ≤ g i)) :
    ∀ j : Nat, j < l.length → (b ≤ vs.getD j 0 ↔ c ≤ us.getD j 0) := by
  refine tree_ind hT (Q := fun j => (b ≤ vs.getD j 0 ↔ c ≤ us.getD j 0)) fun j hj hk => ?_
  have kD : ∀ x ∈ kid l j, (b ≤ rd vs x ↔ c ≤ rd us x) := fun x hx => by obtain ⟨i, rfl, hi, h⟩ := hk x hx; exact h
  rw [hv.at_ j hj, hu.at_ j hj]
  unfold NV
  by_cases hl : leafB l j = true
  · rw [if_pos hl, if_pos hl]; exact h j hj hl
  · have hne := leaf_ne hl
    rw [if_neg hl, if_neg hl]
    by_cases he : evB dep j = true
    · rw [if_pos he, if_pos he, maxL_ge hne, maxL_ge hne]
      exact ⟨fun ⟨x, hx, e⟩ => ⟨x, hx, (kD x hx).1 e⟩, fun ⟨x, hx, e⟩ => ⟨x, hx, (kD x hx).2 e⟩⟩
    · rw [if_neg he, if_neg he, minL_ge hne, minL_ge hne]
      exact ⟨fun e x hx => (kD x hx).1 (e x hx), fun e x hx => (kD x hx).2 (e x hx)⟩
/-! ### The reference's count -/
abbrev farR : Int := 1000000
def sumL : List Int → Int
  | [] => 0
  | x :: r => x + sumL r
def sumC : List Int → Int
  | [] => 0
  | x :: r => r.foldl (fun a n => min farR (n + a)) x
def RN (l : List Nd) (dep : List Int) (mx : Bool) (al : Int → Int) (rs : List Int) (j : Int) : Int :=
  if leafB l j then al j else if evB dep j == mx then minL ((kid l j).map (rd rs)) else sumC ((kid l j).map (rd rs))
structure RNeedP (l : List Nd) (dep : List Int) (mx : Bool) (al : Int → Int) (rs : List Int) : Prop where
  len : rs.length = l.length
  at_ : ∀ j : Nat, j < l.length → rs.getD j 0 = RN l dep mx al rs j
theorem RN_congr {l : List Nd} {dep : List Int} (h : TF l dep) {i : Nat} (hi : i < l.length) {mx : Bool} {al : Int → Int} {vs us : List Int} (he : ∀ j : Nat, i < j → j < l.length → vs.getD j 0 = us.getD j 0) : RN l dep mx al vs i = RN l dep mx al us i := by
  unfold RN
  rw [map_rd_congr h hi he]
theorem rn_set {l : List Nd} {dep : List Int} (h : TF l dep) {mx : Bool} {al : Int → Int} {os : List Int} {q : Nat} (hq : q < l.length) (hol : os.length = l.length) {x : Int} (hx : x = RN l dep mx al os q) (hval : ∀ j : Nat, q + 1 ≤ j → j < l.length → os.getD j 0 = RN l dep mx al os j) :
    ∀ j : Nat, q ≤ j → j < l.length → (os.set q x).getD j 0 = RN l dep mx al (os.set q x) j := by
  intro j h1 h2
  have hc : RN l dep mx al (os.set q x) j = RN l dep mx al os j := RN_congr h h2 fun i hi hil => getD_set_ne (by omega)
  rw [hc]
  by_cases e : q = j
  · subst e; rw [getD_set_eq (by omega)]; exact hx
  · rw [getD_set_ne e]; exact hval j (by omega) h2
theorem sumL_nn : ∀ {xs : List Int}, (∀ x ∈ xs, 0 ≤ x) → 0 ≤ sumL xs
  | [], _ => Int.le_refl _
  | x :: r, h => by have := h x (by simp); have := sumL_nn (xs := r) fun y hy => h y (by simp [hy]); simp only [sumL]; omega
theorem sumL_mem : ∀ {xs : List Int}, (∀ x ∈ xs, 0 ≤ x) → ∀ x ∈ xs, x ≤ sumL xs
  | [], _, x, hx => by simp at hx
  | y :: r, h, x, hx => by
    have h0 := h y (by simp)
    have h1 := sumL_nn (xs := r) fun y hy => h y (by simp [hy])
    simp only [sumL]
    rcases List.mem_cons.1 hx with rfl | hx
    · omega
    · have := sumL_mem (xs := r) (fun y hy => h y (by simp [hy])) x hx; omega
theorem cap_sum (K : Int) (f : Int → Int → Int) (hf : ∀ a n, f a n = min K (a + n)) : ∀ (xs : List Int) (a : Int), a ≤ K → (∀ x ∈ xs, 0 ≤ x) → xs.foldl f a = min K (a + sumL xs)
  | [], a, ha, _ => by simp only [List.foldl_nil, sumL]; omega
  | x :: r, a, ha, h => by
    have h0 := h x (by simp)
    have h1 := sumL_nn (xs := r) fun y hy => h y (by simp [hy])
    rw [List.foldl_cons, cap_sum K f hf r _ (by rw [hf]; omega) (fun y hy => h y (by simp [hy])), hf]
    simp only [sumL]
    omega
theorem sumC_eq {xs : List Int} (h : ∀ x ∈ xs, 0 ≤ x ∧ x ≤ farR) : sumC xs = min farR (sumL xs) := by
  cases xs with
  | nil => rfl
  | cons x r =>
    have h0 := h x (by simp)
    simp only [sumC, sumL]
    rw [cap_sum farR _ (fun a n => by omega) r x h0.2 (fun y hy => (h y (by simp [hy])).1)]
theorem join_fst {es : List Ef} : ∀ (cs : List Int) (a : Ef), (cs.foldl (joinF es) a).1 = (cs.map fun c => (ed es c).1).foldl (fun a n => min far (a + n)) a.1
  | [], _ => rfl
  | c :: r, a => by rw [List.foldl_cons, join_fst r, List.map_cons, List.foldl_cons]; rfl
theorem sumL_congr {f g : Int → Int} : ∀ (cs : List Int), (∀ c ∈ cs, f c = g c) → sumL (cs.map f) = sumL (cs.map g)
  | [], _ => rfl
  | c :: r, h => by simp only [List.map_cons, sumL]; rw [h c (by simp), sumL_congr r fun x hx => h x (by simp [hx])]
theorem ref_need {l : List Nd} {dep : List Int} {mx : Bool} {lf al : Int → Int} {es : List Ef} {rs : List Int} (hT : TF l dep) (hE : NeedP l dep mx lf es) (hR : RNeedP l dep mx al rs) (h3 : ∀ i : Nat, leafB l i = true → lf i = 0 ∨ lf i = 1 ∨ lf i = far)
    (hal : ∀ i : Nat, i < l.length → leafB l i = true → (lf i < far → al i = lf i) ∧ (lf i = far → al i = farR)) :
    ∀ j : Nat, j < l.length → ((es.getD j (0, [])).1 < far → rs.getD j 0 = (es.getD j (0, [])).1) ∧ ((es.getD j (0, [])).1 = far → rs.getD j 0 = farR) := by
  have sE := need_small hT hE h3
  refine tree_ind hT (Q := fun j => ((es.getD j (0, [])).1 < far → rs.getD j 0 = (es.getD j (0, [])).1) ∧ ((es.getD j (0, [])).1 = far → rs.getD j 0 = farR)) fun j hj hk => ?_
  have kE : ∀ c ∈ kid l j, GoodE l c (ed es c).2 ∧ Small l (ed es c) := fun c hc => by obtain ⟨i, rfl, hi, _⟩ := hk c hc; exact sE i hi
  have kR : ∀ c ∈ kid l j, ((ed es c).1 < far → rd rs c = (ed es c).1) ∧ ((ed es c).1 = far → rd rs c = farR) := fun c hc => by obtain ⟨i, rfl, hi, h⟩ := hk c hc; exact h
  have k60 : ∀ c ∈ kid l j, (ed es c).1 < far → (ed es c).1 ≤ 60 := fun c hc h => small60 hT (kE c hc).1 (kE c hc).2 h
  have kb : ∀ c ∈ kid l j, 0 ≤ rd rs c ∧ rd rs c ≤ farR := fun c hc => by
    have h1 := (kE c hc).2.lo
    have h2 := (kE c hc).2.hi
    rcases Int.lt_or_le (ed es c).1 far with h | h
    · have := k60 c hc h; rw [(kR c hc).1 h]; simp only [farR]; omega
    · rw [(kR c hc).2 (by omega)]; exact ⟨by decide, by decide⟩
  have hj60 : (es.getD j (0, [])).1 < far → (es.getD j (0, [])).1 ≤ 60 := fun h => small60 hT (sE j hj).1 (sE j hj).2 h
  rw [hE.at_ j hj] at hj60 ⊢
  rw [hR.at_ j hj]
  unfold NE at hj60 ⊢
  unfold RN
  by_cases hl : leafB l j = true
  · rw [if_pos hl, if_pos hl]; exact hal j hj hl
  · have hne := leaf_ne hl
    rw [if_neg hl] at hj60 ⊢
    rw [if_neg hl]
    by_cases he : (evB dep j == mx) = true
    · rw [if_pos he] at hj60 ⊢
      rw [if_pos he]
      obtain ⟨_, h2, h3⟩ := pick_le (es := es) (kid l j) (far, [])
      refine ⟨fun hlt => ?_, fun hf => ?_⟩
      · have h60 := hj60 hlt
        rcases h3 with h3 | ⟨c, hc, h3⟩
        · rw [h3] at hlt; simp at hlt
        · have hge : ((kid l j).foldl (pickF es) (far, [])).1 ≤ minL ((kid l j).map (rd rs)) := (minL_ge hne).2 fun x hx => by
            have := h2 x hx
            rcases Int.lt_or_le (ed es x).1 far with h | h
            · rw [(kR x hx).1 h]; exact this
            · rw [(kR x hx).2 (by have := (kE x hx).2.hi; omega)]; simp only [farR]; omega
          have hle : minL ((kid l j).map (rd rs)) ≤ ((kid l j).foldl (pickF es) (far, [])).1 := (minL_le hne).2 ⟨c, hc, by rw [h3] at hlt ⊢; rw [(kR c hc).1 hlt]; exact Int.le_refl _⟩
          omega
      · have hall := (pickFar fun c hc => (kE c hc).2.hi).1 hf
        have hge : farR ≤ minL ((kid l j).map (rd rs)) := (minL_ge hne).2 fun x hx => by rw [(kR x hx).2 (hall x hx)]; exact Int.le_refl _
        obtain ⟨c, hc⟩ := List.exists_mem_of_ne_nil _ hne
        have hle : minL ((kid l j).map (rd rs)) ≤ farR := (minL_le hne).2 ⟨c, hc, (kb c hc).2⟩
        omega
    · rw [if_neg he] at hj60 ⊢
      rw [if_neg he]
      have hjs := join_fst (es := es) (kid l j) (0, [])
      rw [cap_sum far _ (fun a n => rfl) _ _ (by decide) (fun x hx => by obtain ⟨c, hc, rfl⟩ := List.mem_map.1 hx; exact (kE c hc).2.lo)] at hjs
      have hsc := sumC_eq (xs := (kid l j).map (rd rs)) fun x hx => by obtain ⟨c, hc, rfl⟩ := List.mem_map.1 hx; exact kb c hc
      refine ⟨fun hlt => ?_, fun hf => ?_⟩
      · have h60 := hj60 hlt
        obtain ⟨_, h2, _⟩ := join_sum (es := es) (kid l j) (0, []) (by decide) (by decide) fun c hc => ⟨(kE c hc).2.lo, (kE c hc).2.hi⟩
        have := sumL_congr (f := rd rs) (g := fun c => (ed es c).1) (kid l j) fun c hc => (kR c hc).1 (Int.lt_of_le_of_lt (h2 c hc) hlt)
        rw [hsc, this]
        simp only [farR, far] at *
        omega
      · obtain ⟨c, hc, e⟩ := (joinFar hT hj kE).1 hf
        have := sumL_mem (xs := (kid l j).map (rd rs)) (fun x hx => by obtain ⟨c, hc, rfl⟩ := List.mem_map.1 hx; exact (kb c hc).1) (rd rs c) (List.mem_map.2 ⟨c, hc, rfl⟩)
        rw [(kR c hc).2 e] at this
        rw [hsc]
        omega
/-! ### Lists of an effort -/
theorem join_mem {es : List Ef} {x : Int} : ∀ (cs : List Int) (a : Ef), x ∈ (cs.foldl (joinF es) a).2 ↔ x ∈ a.2 ∨ ∃ c ∈ cs, x ∈ (ed es c).2
  | [], a => by simp
  | c :: r, a => by
    rw [List.foldl_cons, join_mem r]
    simp only [joinF, List.mem_append, List.mem_cons, exists_eq_or_imp, or_assoc]
theorem proof_ge {l : List Nd} {dep : List Int} {lf wf : Int → Int} {es : List Ef} {vs : List Int} {b : Int} {S : List Int} (hT : TF l dep) (hE : NeedP l dep true lf es) (hv : ValP l dep wf vs) (h3 : ∀ i : Nat, leafB l i = true → lf i = 0 ∨ lf i = 1 ∨ lf i = far)
    (h : ∀ i : Nat, i < l.length → leafB l i = true → lf i < far → (i : Int) ∈ S → b ≤ wf i) : ∀ j : Nat, j < l.length → (es.getD j (0, [])).1 < far → (∀ x ∈ (es.getD j (0, [])).2, x ∈ S) → b ≤ vs.getD j 0 := by
  have sE := need_small hT hE h3
  refine tree_ind hT (Q := fun j => (es.getD j (0, [])).1 < far → (∀ x ∈ (es.getD j (0, [])).2, x ∈ S) → b ≤ vs.getD j 0) fun j hj hk => ?_
  have kE : ∀ c ∈ kid l j, GoodE l c (ed es c).2 ∧ Small l (ed es c) := fun c hc => by obtain ⟨i, rfl, hi, _⟩ := hk c hc; exact sE i hi
  have kD : ∀ c ∈ kid l j, (ed es c).1 < far → (∀ x ∈ (ed es c).2, x ∈ S) → b ≤ rd vs c := fun c hc => by obtain ⟨i, rfl, hi, h⟩ := hk c hc; exact h
  rw [hE.at_ j hj, hv.at_ j hj]
  unfold NE NV
  by_cases hl : leafB l j = true
  · rw [if_pos hl, if_pos hl]
    exact fun h1 h2 => h j hj hl h1 (h2 _ (by simp))
  · have hne := leaf_ne hl
    rw [if_neg hl, if_neg hl]
    by_cases he : evB dep j = true
    · rw [if_pos (by rw [he]; rfl), if_pos he, maxL_ge hne]
      intro h1 h2
      obtain ⟨_, _, q⟩ := pick_le (es := es) (kid l j) (far, [])
      rcases q with q | ⟨c, hc, q⟩
      · rw [q] at h1; simp at h1
      · rw [q] at h1 h2; exact ⟨c, hc, kD c hc h1 h2⟩
    · rw [if_neg (by simpa using he), if_neg he, minL_ge hne]
      intro h1 h2 c hc
      obtain ⟨_, q, _⟩ := join_sum (es := es) (kid l j) (0, []) (by decide) (by decide) fun c hc => ⟨(kE c hc).2.lo, (kE c hc).2.hi⟩
      exact kD c hc (Int.lt_of_le_of_lt (q c hc) h1) fun x hx => h2 x ((join_mem _ _).2 (.inr ⟨c, hc, hx⟩))
theorem refute_le {l : List Nd} {dep : List Int} {lf wf : Int → Int} {es : List Ef} {vs : List Int} {b : Int} {S : List Int} (hT : TF l dep) (hE : NeedP l dep false lf es) (hv : ValP l dep wf vs) (h3 : ∀ i : Nat, leafB l i = true → lf i = 0 ∨ lf i = 1 ∨ lf i = far)
    (h : ∀ i : Nat, i < l.length → leafB l i = true → lf i < far → (i : Int) ∈ S → wf i ≤ b) : ∀ j : Nat, j < l.length → (es.getD j (0, [])).1 < far → (∀ x ∈ (es.getD j (0, [])).2, x ∈ S) → vs.getD j 0 ≤ b := by
  have sE := need_small hT hE h3
  refine tree_ind hT (Q := fun j => (es.getD j (0, [])).1 < far → (∀ x ∈ (es.getD j (0, [])).2, x ∈ S) → vs.getD j 0 ≤ b) fun j hj hk => ?_
  have kE : ∀ c ∈ kid l j, GoodE l c (ed es c).2 ∧ Small l (ed es c) := fun c hc => by obtain ⟨i, rfl, hi, _⟩ := hk c hc; exact sE i hi
  have kD : ∀ c ∈ kid l j, (ed es c).1 < far → (∀ x ∈ (ed es c).2, x ∈ S) → rd vs c ≤ b := fun c hc => by obtain ⟨i, rfl, hi, h⟩ := hk c hc; exact h
  rw [hE.at_ j hj, hv.at_ j hj]
  unfold NE NV
  by_cases hl : leafB l j = true
  · rw [if_pos hl, if_pos hl]
    exact fun h1 h2 => h j hj hl h1 (h2 _ (by simp))
  · have hne := leaf_ne hl
    rw [if_neg hl, if_neg hl]
    by_cases he : evB dep j = true
    · rw [if_neg (by rw [he]; simp), if_pos he, maxL_le hne]
      intro h1 h2 c hc
      obtain ⟨_, q, _⟩ := join_sum (es := es) (kid l j) (0, []) (by decide) (by decide) fun c hc => ⟨(kE c hc).2.lo, (kE c hc).2.hi⟩
      exact kD c hc (Int.lt_of_le_of_lt (q c hc) h1) fun x hx => h2 x ((join_mem _ _).2 (.inr ⟨c, hc, hx⟩))
    · have he' : evB dep j = false := by simpa using he
      rw [if_pos (by rw [he']; rfl), if_neg he, minL_le hne]
      intro h1 h2
      obtain ⟨_, _, q⟩ := pick_le (es := es) (kid l j) (far, [])
      rcases q with q | ⟨c, hc, q⟩
      · rw [q] at h1; simp at h1
      · rw [q] at h1 h2; exact ⟨c, hc, kD c hc h1 h2⟩
/-- The lists are as long as the efforts. -/
theorem need_len {l : List Nd} {dep : List Int} {mx : Bool} {lf : Int → Int} {es : List Ef} (hT : TF l dep) (hE : NeedP l dep mx lf es) (h3 : ∀ i : Nat, leafB l i = true → lf i = 1 ∨ lf i = far) :
    ∀ j : Nat, j < l.length → (es.getD j (0, [])).1 < far → (es.getD j (0, [])).1 = (es.getD j (0, [])).2.length := by
  have sE := need_small hT hE fun i hl => .inr (h3 i hl)
  refine tree_ind hT (Q := fun j => (es.getD j (0, [])).1 < far → (es.getD j (0, [])).1 = (es.getD j (0, [])).2.length) fun j hj hk => ?_
  have kE : ∀ c ∈ kid l j, GoodE l c (ed es c).2 ∧ Small l (ed es c) := fun c hc => by obtain ⟨i, rfl, hi, _⟩ := hk c hc; exact sE i hi
  have kD : ∀ c ∈ kid l j, (ed es c).1 < far → (ed es c).1 = (ed es c).2.length := fun c hc => by obtain ⟨i, rfl, hi, h⟩ := hk c hc; exact h
  rw [hE.at_ j hj]
  unfold NE
  by_cases hl : leafB l j = true
  · rw [if_pos hl]
    intro h1
    rcases h3 j hl with e | e <;> simp only [e] at h1 ⊢ <;> simp at h1 ⊢
  · rw [if_neg hl]
    by_cases he : (evB dep j == mx) = true
    · rw [if_pos he]
      intro h1
      obtain ⟨_, _, q⟩ := pick_le (es := es) (kid l j) (far, [])
      rcases q with q | ⟨c, hc, q⟩
      · rw [q] at h1; simp at h1
      · rw [q] at h1 ⊢; exact kD c hc h1
    · rw [if_neg he]
      intro h1
      obtain ⟨_, q, _⟩ := join_sum (es := es) (kid l j) (0, []) (by decide) (by decide) fun c hc => ⟨(kE c hc).2.lo, (kE c hc).2.hi⟩
      have hlt : ∀ c ∈ kid l j, (ed es c).1 < far := fun c hc => Int.lt_of_le_of_lt (q c hc) h1
      have : ∀ (cs : List Int) (a : Ef), (∀ c ∈ cs, c ∈ kid l j) → a.1 = a.2.length → (cs.foldl (joinF es) a).1 < far → (cs.foldl (joinF es) a).1 = (cs.foldl (joinF es) a).2.length := by
        intro cs
        induction cs with
        | nil => intro a _ ha _; exact ha
        | cons c r ih =>
          intro a hc ha h1
          rw [List.foldl_cons] at h1 ⊢
          refine ih _ (fun x hx => hc x (by simp [hx])) ?_ h1
          have hs := join_sum (es := es) r (joinF es a c) (by simp only [joinF]; have := (kE c (hc c (by simp))).2.lo; simp only [far]; omega) (by simp only [joinF]; omega) fun x hx => ⟨(kE x (hc x (by simp [hx]))).2.lo, (kE x (hc x (by simp [hx]))).2.hi⟩
          have h2 : (joinF es a c).1 < far := Int.lt_of_le_of_lt hs.1 h1
          have h4 := kD c (hc c (by simp)) (hlt c (hc c (by simp)))
          simp only [joinF, List.length_append] at h2 ⊢
          omega
      exact this _ _ (fun c h => h) (by simp) h1
theorem join_len {es es' : List Ef} : ∀ (cs : List Int) (a a' : Ef), (∀ c ∈ cs, (ed es c).1 ≤ (ed es' c).2.length) → a.1 ≤ a'.2.length → (cs.foldl (joinF es) a).1 ≤ (cs.foldl (joinF es') a').2.length
  | [], _, _, _, h => h
  | c :: r, a, a', hc, h => by
    have := hc c (by simp)
    refine join_len r _ _ (fun x hx => hc x (by simp [hx])) ?_
    simp only [joinF, List.length_append]
    omega
/-- Whoever decides has as many leaves. -/
theorem proof_min {l : List Nd} {dep : List Int} {lf wf : Int → Int} {es : List Ef} {vs : List Int} {b : Int} {S : List Int} (hT : TF l dep) (hE : NeedP l dep true lf es) (hv : ValP l dep wf vs)
    (h : ∀ i : Nat, i < l.length → leafB l i = true → b ≤ wf i → (i : Int) ∈ S ∧ lf i ≤ 1) : ∀ j : Nat, j < l.length → b ≤ vs.getD j 0 → ∃ ys, GoodE l j ys ∧ (∀ x ∈ ys, x ∈ S) ∧ (es.getD j (0, [])).1 ≤ ys.length := by
  refine tree_ind hT (Q := fun j => b ≤ vs.getD j 0 → ∃ ys, GoodE l j ys ∧ (∀ x ∈ ys, x ∈ S) ∧ (es.getD j (0, [])).1 ≤ ys.length) fun j hj hk => ?_
  rw [hE.at_ j hj, hv.at_ j hj]
  unfold NE NV
  by_cases hl : leafB l j = true
  · rw [if_pos hl, if_pos hl]
    intro h1
    obtain ⟨q1, q2⟩ := h j hj hl h1
    refine ⟨[(j : Int)], ⟨fun x hx => ?_, by simp⟩, fun x hx => by simp at hx; rw [hx]; exact q1, by simpa using q2⟩
    simp at hx
    subst hx
    exact ⟨by omega, by omega, hl, 0, rfl⟩
  · have hne := leaf_ne hl
    rw [if_neg hl, if_neg hl]
    by_cases he : evB dep j = true
    · rw [if_pos he, if_pos (by rw [he]; rfl), maxL_ge hne]
      rintro ⟨c, hc, h1⟩
      obtain ⟨i, rfl, hi, hq⟩ := hk c hc
      obtain ⟨ys, hg, hs, hle⟩ := hq h1
      exact ⟨ys, hg.up hc, hs, Int.le_trans ((pick_le (es := es) (kid l j) (far, [])).2.1 _ hc) hle⟩
    · rw [if_neg he, if_neg (by simpa using he), minL_ge hne]
      intro h1
      have hx : ∀ i : Nat, ∃ ys : List Int, ((i : Int) ∈ kid l j → GoodE l i ys ∧ (∀ x ∈ ys, x ∈ S) ∧ (es.getD i (0, [])).1 ≤ ys.length) := fun i => by
        by_cases hc : (i : Int) ∈ kid l j
        · obtain ⟨i', e, hi, hq⟩ := hk _ hc
          obtain rfl : i = i' := by omega
          obtain ⟨ys, hh⟩ := hq (h1 _ hc)
          exact ⟨ys, fun _ => hh⟩
        · exact ⟨[], fun h => absurd h hc⟩
      let f : Nat → List Int := fun i => Classical.choose (hx i)
      have hf : ∀ i : Nat, (i : Int) ∈ kid l j → GoodE l i (f i) ∧ (∀ x ∈ f i, x ∈ S) ∧ (es.getD i (0, [])).1 ≤ (f i).length := fun i => Classical.choose_spec (hx i)
      let es' : List Ef := (List.range l.length).map fun i => (0, f i)
      have he' : ∀ c ∈ kid l j, ∃ i : Nat, c = i ∧ (i : Int) ∈ kid l j ∧ ed es' c = (0, f i) := fun c hc => by
        obtain ⟨i, rfl, hi, _⟩ := hk c hc
        refine ⟨i, rfl, hc, ?_⟩
        simp [ed, es', List.getD_eq_getElem?_getD, hi]
      have hg := (good_join hT hj (es := es') (fun c hc => by obtain ⟨i, rfl, hm, e⟩ := he' c hc; rw [e]; exact (hf i hm).1) (kid l j).length (Nat.le_refl _)).1
      rw [List.take_length] at hg
      refine ⟨_, hg, fun x hx => ?_, ?_⟩
      · rcases (join_mem _ _).1 hx with hx | ⟨c, hc, hx⟩
        · simp at hx
        · obtain ⟨i, rfl, hm, e⟩ := he' c hc
          rw [e] at hx
          exact (hf i hm).2.1 x hx
      · exact join_len _ _ _ (fun c hc => by obtain ⟨i, rfl, hm, e⟩ := he' c hc; rw [e]; exact (hf i hm).2.2) (by simp)
theorem nodup_sub : ∀ (ys S : List Int), ys.Nodup → (∀ x ∈ ys, x ∈ S) → ys.length ≤ S.length
  | [], _, _, _ => Nat.zero_le _
  | y :: r, S, hn, h => by
    have hy := h y (by simp)
    rw [List.nodup_cons] at hn
    have := nodup_sub r (S.erase y) hn.2 fun x hx => (List.mem_erase_of_ne (fun e => by subst e; exact hn.1 hx)).2 (h x (by simp [hx]))
    rw [List.length_erase, if_pos hy] at this
    have : 0 < S.length := List.length_pos_of_mem hy
    simp only [List.length_cons]
    omega
/-- The other side's efforts. -/
theorem zero_iffF {l : List Nd} {dep : List Int} {tf wf : Int → Int} {es : List Ef} {vs : List Int} {b : Int} (hT : TF l dep) (hE : NeedP l dep false tf es) (hv : ValP l dep wf vs) (ht : ∀ i : Nat, leafB l i = true → tf i = 0 ∨ tf i = 1 ∨ tf i = far)
    (h : ∀ i : Nat, i < l.length → leafB l i = true → (tf i = 0 ↔ wf i ≤ b)) : ∀ j : Nat, j < l.length → ((es.getD j (0, [])).1 = 0 ↔ vs.getD j 0 ≤ b) := by
  have sE := need_small hT hE ht
  refine tree_ind hT (Q := fun j => ((es.getD j (0, [])).1 = 0 ↔ vs.getD j 0 ≤ b)) fun j hj hk => ?_
  have kE : ∀ c ∈ kid l j, GoodE l c (ed es c).2 ∧ Small l (ed es c) := fun c hc => by obtain ⟨i, rfl, hi, _⟩ := hk c hc; exact sE i hi
  have kD : ∀ c ∈ kid l j, ((ed es c).1 = 0 ↔ rd vs c ≤ b) := fun c hc => by obtain ⟨i, rfl, hi, h⟩ := hk c hc; exact h
  rw [hE.at_ j hj, hv.at_ j hj]
  unfold NE NV
  by_cases hl : leafB l j = true
  · rw [if_pos hl, if_pos hl]; exact h j hj hl
  · have hne := leaf_ne hl
    rw [if_neg hl, if_neg hl]
    by_cases he : evB dep j = true
    · rw [if_neg (by rw [he]; simp), if_pos he, joinZ fun c hc => ⟨(kE c hc).2.lo, (kE c hc).2.hi⟩, maxL_le hne]
      exact ⟨fun e c hc => (kD c hc).1 (e c hc), fun e c hc => (kD c hc).2 (e c hc)⟩
    · have he' : evB dep j = false := by simpa using he
      rw [if_pos (by rw [he']; rfl), if_neg he, pickZ fun c hc => (kE c hc).2.lo, minL_le hne]
      exact ⟨fun ⟨c, hc, e⟩ => ⟨c, hc, (kD c hc).1 e⟩, fun ⟨c, hc, e⟩ => ⟨c, hc, (kD c hc).2 e⟩⟩
end Go.Proofs.Ytdiljpnfochndaa.HP
/- The turned tree. -/
namespace Go.Proofs.Ytdiljpnfochndaa.HP
def turnM (l : List Nd) : List Nd := ([1], 0) :: l.map fun x => (x.1.map (· + 1), -x.2)
theorem turn_len (l : List Nd) : (turnM l).length = l.length + 1 := by simp [turnM]
theorem turn_at (l : List Nd) (i : Nat) (h : i < l.length) : (turnM l).getD (i + 1) ([], 0) = ((kid l i).map (· + 1), - wor l i) := by
  simp [turnM, kid, wor, List.getD_eq_getElem?_getD, h]
theorem turn_kid0 (l : List Nd) : kid (turnM l) 0 = [1] := rfl
theorem turn_kid (l : List Nd) (i : Nat) (h : i < l.length) : kid (turnM l) ((i : Int) + 1) = (kid l i).map (· + 1) := by
  show ((turnM l).getD ((i : Int) + 1).toNat ([], 0)).1 = _
  rw [show ((i : Int) + 1).toNat = i + 1 by omega, turn_at l i h]
theorem turn_wor (l : List Nd) (i : Nat) (h : i < l.length) : wor (turnM l) ((i : Int) + 1) = - wor l i := by
  show ((turnM l).getD ((i : Int) + 1).toNat ([], 0)).2 = _
  rw [show ((i : Int) + 1).toNat = i + 1 by omega, turn_at l i h]
theorem turn_leaf (l : List Nd) (i : Nat) (h : i < l.length) : leafB (turnM l) ((i : Int) + 1) = leafB l i := by
  unfold leafB
  rw [turn_kid l i h]
  cases kid l i <;> rfl
theorem map_getD (xs : List Int) (b : Nat) (h : b < xs.length) : (xs.map (· + 1)).getD b 0 = xs.getD b 0 + 1 := by
  simp [List.getD_eq_getElem?_getD, h]
theorem turn_k (l : List Nd) (a b : Nat) (ha : a < l.length) (hb : b < (kid l a).length) : k_ (turnM l) (a + 1) b = k_ l a b + 1 := by
  unfold k_
  rw [show (((a + 1 : Nat)) : Int) = (a : Int) + 1 by omega, turn_kid l a ha, map_getD _ _ hb]
theorem turn_TK {l : List Nd} (h : TK l) (h59 : l.length ≤ 59) : TK (turnM l) := by
  have hn := h.n1
  have hkl : ∀ a : Nat, a < l.length → (kid (turnM l) ((a + 1 : Nat) : Int)).length = (kid l a).length := fun a ha => by
    rw [show (((a + 1 : Nat)) : Int) = (a : Int) + 1 by omega, turn_kid l a ha, List.length_map]
  have h0 : k_ (turnM l) 0 0 = 1 := rfl
  refine ⟨by rw [turn_len]; omega, by rw [turn_len]; omega, fun a b ha hb => ?_, fun a b a' b' ha hb ha' hb' he => ?_, fun c h1 h2 => ?_, fun a ha => ?_⟩
  · rw [turn_len] at ha ⊢
    cases a with
    | zero =>
      have : b = 0 := by have : (kid (turnM l) ((0 : Nat) : Int)).length = 1 := rfl; omega
      subst this
      rw [h0]; omega
    | succ a =>
      rw [hkl a (by omega)] at hb
      have := h.kin a b (by omega) hb
      rw [turn_k l a b (by omega) hb]
      omega
  · rw [turn_len] at ha ha'
    cases a with
    | zero =>
      have e0 : b = 0 := by have : (kid (turnM l) ((0 : Nat) : Int)).length = 1 := rfl; omega
      subst e0
      cases a' with
      | zero =>
        have e0 : b' = 0 := by have : (kid (turnM l) ((0 : Nat) : Int)).length = 1 := rfl; omega
        exact ⟨rfl, e0.symm⟩
      | succ a' =>
        rw [hkl a' (by omega)] at hb'
        have := h.kin a' b' (by omega) hb'
        rw [h0, turn_k l a' b' (by omega) hb'] at he
        omega
    | succ a =>
      rw [hkl a (by omega)] at hb
      cases a' with
      | zero =>
        have e0 : b' = 0 := by have : (kid (turnM l) ((0 : Nat) : Int)).length = 1 := rfl; omega
        subst e0
        have := h.kin a b (by omega) hb
        rw [h0, turn_k l a b (by omega) hb] at he
        omega
      | succ a' =>
        rw [hkl a' (by omega)] at hb'
        rw [turn_k l a b (by omega) hb, turn_k l a' b' (by omega) hb'] at he
        have := h.inj a b a' b' (by omega) hb (by omega) hb' (by omega)
        omega
  · rw [turn_len] at h2
    cases c with
    | zero => omega
    | succ c =>
      cases c with
      | zero => exact ⟨0, 0, by rw [turn_len]; omega, Nat.zero_lt_one, rfl⟩
      | succ c =>
        obtain ⟨a, b, ha, hb, hk⟩ := h.cov (c + 1) (by omega) (by omega)
        refine ⟨a + 1, b, by rw [turn_len]; omega, by rw [hkl a ha]; exact hb, ?_⟩
        rw [turn_k l a b ha hb, hk]
        omega
  · rw [turn_len] at ha
    cases a with
    | zero => exact ⟨show (-100 : Int) ≤ 0 by decide, show (0 : Int) ≤ 100 by decide, fun _ => rfl⟩
    | succ a =>
      rw [hkl a (by omega)]
      have := h.wor a (by omega)
      have hw := turn_wor l a (by omega)
      rw [show (((a + 1 : Nat)) : Int) = (a : Int) + 1 by omega, hw]
      exact ⟨by omega, by omega, fun hp => by have := this.2.2 hp; omega⟩
theorem turn_dep {l : List Nd} {dep dep' : List Int} (hT : TF l dep) (hT' : TF (turnM l) dep') : dep'.getD 0 0 = 0 ∧ ∀ i : Nat, i < l.length → dep'.getD (i + 1) 0 = dep.getD i 0 + 1 := by
  have h0' : dep'.getD 0 0 = 0 := by have := hT'.dbd 0; omega
  have h0 : dep.getD 0 0 = 0 := by have := hT.dbd 0; omega
  refine ⟨h0', fun i => ?_⟩
  induction i using Nat.strongRecOn with
  | _ i ih =>
    intro hi
    by_cases e : i = 0
    · subst e
      have := hT'.kdep 0 0 (by rw [turn_len]; omega) Nat.zero_lt_one
      rw [show k_ (turnM l) 0 0 = 1 from rfl] at this
      simp only [rd] at this
      rw [show ((0 : Nat) : Int).toNat = 0 from rfl, show (1 : Int).toNat = 1 from rfl, h0'] at this
      rw [h0]
      exact this
    · obtain ⟨a, b, ha, hb, hk⟩ := hT.cov i (by omega) hi
      have hlt := hT.kin a b ha hb
      have h1 := hT.kdep a b ha hb
      have h2 := hT'.kdep (a + 1) b (by rw [turn_len]; omega) (by rw [show (((a + 1 : Nat)) : Int) = (a : Int) + 1 by omega, turn_kid l a ha, List.length_map]; exact hb)
      rw [turn_k l a b ha hb, hk] at h2
      rw [hk] at h1 hlt
      simp only [rd, Int.toNat_natCast] at h1 h2
      rw [show ((i : Int) + 1).toNat = i + 1 by omega] at h2
      rw [h2, h1, ih a (by omega) ha]
theorem turn_ev {l : List Nd} {dep dep' : List Int} (hT : TF l dep) (hT' : TF (turnM l) dep') {i : Nat} (hi : i < l.length) : evB dep' ((i : Int) + 1) = !evB dep i := by
  have h := (turn_dep hT hT').2 i hi
  have hb := (hT.dbd i).1
  unfold evB
  simp only [rd, Int.toNat_natCast]
  rw [show ((i : Int) + 1).toNat = i + 1 by omega, h]
  generalize dep.getD i 0 = d at *
  rw [Int.tmod_eq_emod_of_nonneg (by omega), Int.tmod_eq_emod_of_nonneg (by omega)]
  by_cases h : d % 2 = 0
  · rw [h, show (d + 1) % 2 = 1 by omega]; rfl
  · rw [show d % 2 = 1 by omega, show (d + 1) % 2 = 0 by omega]; rfl
theorem maxL_neg (xs : List Int) : maxL (xs.map fun x => -x) = - minL xs := by
  cases xs with
  | nil => rfl
  | cons x r =>
    simp only [maxL, minL, List.map_cons]
    induction r generalizing x with
    | nil => rfl
    | cons y r ih => simp only [List.map_cons, List.foldl_cons]; rw [show max (-x) (-y) = - min x y by omega]; exact ih _
theorem minL_neg (xs : List Int) : minL (xs.map fun x => -x) = - maxL xs := by
  cases xs with
  | nil => rfl
  | cons x r =>
    simp only [maxL, minL, List.map_cons]
    induction r generalizing x with
    | nil => rfl
    | cons y r ih => simp only [List.map_cons, List.foldl_cons]; rw [show min (-x) (-y) = - max x y by omega]; exact ih _
theorem turn_val {l : List Nd} {dep dep' : List Int} {vs us : List Int} (hT : TF l dep) (hT' : TF (turnM l) dep') (hv : ValP l dep (wor l) vs) (hu : ValP (turnM l) dep' (wor (turnM l)) us) : us.getD 0 0 = - vs.getD 0 0 := by
  have hn := hT.n1
  have key : ∀ j : Nat, j < l.length → us.getD (j + 1) 0 = - vs.getD j 0 := by
    refine tree_ind hT (Q := fun j => us.getD (j + 1) 0 = - vs.getD j 0) fun j hj hk => ?_
    have kD : (kid (turnM l) ((j : Int) + 1)).map (rd us) = ((kid l j).map (rd vs)).map fun x => -x := by
      rw [turn_kid l j hj, List.map_map, List.map_map]
      apply List.map_congr_left
      intro c hc
      obtain ⟨i, rfl, hi, h⟩ := hk c hc
      simp only [Function.comp, rd, Int.toNat_natCast]
      rw [show ((i : Int) + 1).toNat = i + 1 by omega]
      exact h
    rw [hu.at_ (j + 1) (by rw [turn_len]; omega), hv.at_ j hj]
    unfold NV
    rw [show (((j + 1 : Nat)) : Int) = (j : Int) + 1 by omega, kD, turn_leaf l j hj, turn_ev hT hT' hj, turn_wor l j hj]
    generalize (kid l j).map (rd vs) = xs
    cases leafB l j <;> cases evB dep j <;> simp [maxL_neg, minL_neg]
  rw [hu.at_ 0 (by rw [turn_len]; omega)]
  have h0 : evB dep' 0 = true := by
    unfold evB
    simp only [rd]
    rw [show (0 : Int).toNat = 0 from rfl, (turn_dep hT hT').1]
    rfl
  unfold NV
  rw [show ((0 : Nat) : Int) = 0 from rfl, h0, turn_kid0, show leafB (turnM l) 0 = false from rfl]
  have := key 0 (by omega)
  simp only [rd, maxL, List.map_cons, List.map_nil, List.foldl_nil]
  simpa using this
theorem pick_shift {es fs : List Ef} : ∀ (cs : List Int) (a : Ef), (∀ c ∈ cs, ed fs (c + 1) = ((ed es c).1, (ed es c).2.map (· + 1))) → (cs.map (· + 1)).foldl (pickF fs) (a.1, a.2.map (· + 1)) = ((cs.foldl (pickF es) a).1, (cs.foldl (pickF es) a).2.map (· + 1))
  | [], _, _ => rfl
  | c :: r, a, h => by
    rw [List.map_cons, List.foldl_cons, List.foldl_cons]
    have hp : pickF fs (a.1, a.2.map (· + 1)) (c + 1) = ((pickF es a c).1, (pickF es a c).2.map (· + 1)) := by
      unfold pickF
      rw [h c (by simp)]
      split <;> simp_all
    rw [hp]
    exact pick_shift r _ fun x hx => h x (by simp [hx])
theorem join_shift {es fs : List Ef} : ∀ (cs : List Int) (a : Ef), (∀ c ∈ cs, ed fs (c + 1) = ((ed es c).1, (ed es c).2.map (· + 1))) → (cs.map (· + 1)).foldl (joinF fs) (a.1, a.2.map (· + 1)) = ((cs.foldl (joinF es) a).1, (cs.foldl (joinF es) a).2.map (· + 1))
  | [], _, _ => rfl
  | c :: r, a, h => by
    rw [List.map_cons, List.foldl_cons, List.foldl_cons]
    have hp : joinF fs (a.1, a.2.map (· + 1)) (c + 1) = ((joinF es a c).1, (joinF es a c).2.map (· + 1)) := by
      unfold joinF
      rw [h c (by simp)]
      simp
    rw [hp]
    exact join_shift r _ fun x hx => h x (by simp [hx])
theorem turn_need {l : List Nd} {dep dep' : List Int} {lf lf' : Int → Int} {es fs : List Ef} (hT : TF l dep) (hT' : TF (turnM l) dep') (hE : NeedP l dep false lf es) (hF : NeedP (turnM l) dep' true lf' fs)
    (h : ∀ i : Nat, i < l.length → leafB l i = true → lf' ((i : Int) + 1) = lf i) (hb : (es.getD 0 (0, [])).1 ≤ far) : (fs.getD 0 (0, [])).1 = (es.getD 0 (0, [])).1 ∧ ((es.getD 0 (0, [])).1 < far → (fs.getD 0 (0, [])).2.length = (es.getD 0 (0, [])).2.length) := by
  have hn := hT.n1
  have key : ∀ j : Nat, j < l.length → fs.getD (j + 1) (0, []) = ((es.getD j (0, [])).1, (es.getD j (0, [])).2.map (· + 1)) := by
    refine tree_ind hT (Q := fun j => fs.getD (j + 1) (0, []) = ((es.getD j (0, [])).1, (es.getD j (0, [])).2.map (· + 1))) fun j hj hk => ?_
    have kD : ∀ c ∈ kid l j, ed fs (c + 1) = ((ed es c).1, (ed es c).2.map (· + 1)) := fun c hc => by
      obtain ⟨i, rfl, hi, h⟩ := hk c hc
      simp only [ed, Int.toNat_natCast]
      rw [show ((i : Int) + 1).toNat = i + 1 by omega]
      exact h
    rw [hF.at_ (j + 1) (by rw [turn_len]; omega), hE.at_ j hj]
    unfold NE
    rw [show (((j + 1 : Nat)) : Int) = (j : Int) + 1 by omega, turn_leaf l j hj, turn_ev hT hT' hj, turn_kid l j hj]
    by_cases hl : leafB l j = true
    · rw [if_pos hl, if_pos hl, h j hj hl]; rfl
    · rw [if_neg hl, if_neg hl]
      have hp := pick_shift (kid l j) (far, []) kD
      have hq := join_shift (kid l j) (0, []) kD
      simp only [List.map_nil] at hp hq
      cases evB dep j
      · simpa using hp
      · simpa using hq
  have h0 : evB dep' 0 = true := by
    unfold evB
    simp only [rd]
    rw [show (0 : Int).toNat = 0 from rfl, (turn_dep hT hT').1]
    rfl
  have hk := key 0 (by omega)
  have hz := hF.at_ 0 (by rw [turn_len]; omega)
  unfold NE at hz
  rw [show ((0 : Nat) : Int) = 0 from rfl, h0, turn_kid0, show leafB (turnM l) 0 = false from rfl] at hz
  simp only [Bool.false_eq_true, if_false, beq_self_eq_true, if_true, List.foldl_cons, List.foldl_nil, pickF, ed] at hz
  rw [show (1 : Int).toNat = 0 + 1 from rfl, hk] at hz
  rw [hz]
  split
  · exact ⟨rfl, fun _ => by simp⟩
  · rename_i hx
    simp only at hx ⊢
    exact ⟨by omega, fun h => by omega⟩
theorem kids_shift {l : List Nd} {ev : Bool} {rec rec' : Int → Int → Int → Int × List Int} : ∀ (cs : List Int) (lo hi : Int), (∀ c ∈ cs, ∀ lo hi, rec' (c + 1) (-hi) (-lo) = (-(rec c lo hi).1, (rec c lo hi).2.map (· + 1))) →
    kidsS rec' (!ev) (cs.map (· + 1)) (-hi) (-lo) = (-(kidsS rec ev cs lo hi).2.1, -(kidsS rec ev cs lo hi).1, (kidsS rec ev cs lo hi).2.2.map (· + 1))
  | [], lo, hi, _ => rfl
  | c :: r, lo, hi, h => by
    have hc := h c (by simp) lo hi
    simp only [List.map_cons, kidsS]
    rw [hc]
    have e1 : (if (!ev) = true then -lo else min (-lo) (-(rec c lo hi).1)) = -(if ev = true then max lo (rec c lo hi).1 else lo) := by cases ev <;> simp <;> omega
    have e2 : (if (!ev) = true then max (-hi) (-(rec c lo hi).1) else -hi) = -(if ev = true then hi else min hi (rec c lo hi).1) := by cases ev <;> simp <;> omega
    simp only [e1, e2]
    generalize (if ev = true then max lo (rec c lo hi).1 else lo) = lo' at *
    generalize (if ev = true then hi else min hi (rec c lo hi).1) = hi' at *
    by_cases hle : hi' ≤ lo'
    · rw [if_pos hle, if_pos (by omega)]
    · rw [if_neg hle, if_neg (by omega), kids_shift (l := l) r lo' hi' fun x hx => h x (by simp [hx])]
      simp
theorem turn_sr {l : List Nd} {dep dep' : List Int} (hT : TF l dep) (hT' : TF (turnM l) dep') : ∀ (f : Nat) (i : Nat) (lo hi : Int), i < l.length → srS (turnM l) dep' f ((i : Int) + 1) (-hi) (-lo) = (-(srS l dep f i lo hi).1, (srS l dep f i lo hi).2.map (· + 1))
  | 0, i, lo, hi, _ => rfl
  | f + 1, i, lo, hi, h => by
    simp only [srS]
    rw [turn_leaf l i h, turn_ev hT hT' h, turn_kid l i h, turn_wor l i h]
    by_cases hl : leafB l i = true
    · rw [if_pos hl, if_pos hl]; rfl
    · rw [if_neg hl, if_neg hl, kids_shift (l := l) (kid l i) lo hi fun c hc lo hi => by
        obtain ⟨h1, h2⟩ := mem_kid hT h hc
        have := turn_sr hT hT' f c.toNat lo hi (by omega)
        rw [show ((c.toNat : Nat) : Int) = c by omega] at this
        exact this]
      cases evB dep i <;> simp
theorem turn_search {l : List Nd} {dep dep' : List Int} (hT : TF l dep) (hT' : TF (turnM l) dep') : (srS (turnM l) dep' (turnM l).length 0 (-far) far).2.length = (srS l dep l.length 0 (-far) far).2.length := by
  have hn := hT.n1
  have h0 : evB dep' 0 = true := by
    unfold evB
    simp only [rd]
    rw [show (0 : Int).toNat = 0 from rfl, (turn_dep hT hT').1]
    rfl
  have h := turn_sr hT hT' l.length 0 (-far) far (by omega)
  rw [turn_len]
  simp only [srS]
  rw [show leafB (turnM l) 0 = false from rfl, h0, turn_kid0]
  simp only [Bool.false_eq_true, if_false, kidsS, if_true]
  have e : srS (turnM l) dep' l.length 1 (-far) far = (-(srS l dep l.length 0 (-far) far).1, (srS l dep l.length 0 (-far) far).2.map (· + 1)) := by
    have := h
    simpa using this
  rw [e]
  split <;> simp
end Go.Proofs.Ytdiljpnfochndaa.HP
