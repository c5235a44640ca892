/- A part of the walk: what this seat's statements share. -/
import Derived.Test.YtdiljpnfochndaaZHP8
set_option linter.unusedVariables false
set_option linter.unusedSimpArgs false
/- Efforts of two players with the same known leaves. -/
namespace Go.Proofs.Ytdiljpnfochndaa.HP
/-- What the efforts of one side are, at all nodes: in bounds; and small unless far. -/
theorem need_all {l : List Nd} {dep : List Int} {mx : Bool} {lf : Int → Int} {es : List Ef} (hT : TF l dep) (hN : NeedP l dep mx lf es) {Q : Nat → Prop}
    (h : ∀ j : Nat, j < l.length → (∀ c ∈ kid l j, ∃ i : Nat, c = i ∧ i < l.length ∧ Q i) → Q j) : ∀ j : Nat, j < l.length → Q j := by
  have key : ∀ d j : Nat, l.length - j = d → j < l.length → Q j := by
    intro d
    induction d using Nat.strongRecOn with
    | _ d ih =>
      intro j hd hj
      refine h j hj fun c hc => ?_
      obtain ⟨h1, h2⟩ := mem_kid hT hj hc
      exact ⟨c.toNat, by omega, by omega, ih (l.length - c.toNat) (by omega) c.toNat rfl (by omega)⟩
  exact fun j hj => key _ j rfl hj
theorem ed_nat (es : List Ef) (i : Nat) : ed es (i : Int) = es.getD i (0, []) := rfl
theorem pick_le {es : List Ef} : ∀ (cs : List Int) (a : Ef), (cs.foldl (pickF es) a).1 ≤ a.1 ∧ (∀ c ∈ cs, (cs.foldl (pickF es) a).1 ≤ (ed es c).1) ∧ (cs.foldl (pickF es) a = a ∨ ∃ c ∈ cs, cs.foldl (pickF es) a = ed es c)
  | [], a => ⟨Int.le_refl _, by simp, .inl rfl⟩
  | c :: r, a => by
    obtain ⟨h1, h2, h3⟩ := pick_le r (pickF es a c)
    have hp : (pickF es a c).1 ≤ a.1 ∧ (pickF es a c).1 ≤ (ed es c).1 ∧ (pickF es a c = a ∨ pickF es a c = ed es c) := by
      unfold pickF
      split
      · exact ⟨by omega, Int.le_refl _, .inr rfl⟩
      · exact ⟨Int.le_refl _, by omega, .inl rfl⟩
    refine ⟨Int.le_trans h1 hp.1, fun x hx => ?_, ?_⟩
    · rcases List.mem_cons.1 hx with rfl | hx
      · exact Int.le_trans h1 hp.2.1
      · exact h2 x hx
    · rcases h3 with h3 | ⟨x, hx, h3⟩
      · rcases hp.2.2 with e | e
        · exact .inl (by rw [List.foldl_cons, h3, e])
        · exact .inr ⟨c, by simp, by rw [List.foldl_cons, h3, e]⟩
      · exact .inr ⟨x, by simp [hx], by rw [List.foldl_cons, h3]⟩
/-- The sum, capped. -/
theorem join_sum {es : List Ef} : ∀ (cs : List Int) (a : Ef), 0 ≤ a.1 → a.1 ≤ far → (∀ c ∈ cs, 0 ≤ (ed es c).1 ∧ (ed es c).1 ≤ far) →
    a.1 ≤ (cs.foldl (joinF es) a).1 ∧ (∀ c ∈ cs, (ed es c).1 ≤ (cs.foldl (joinF es) a).1) ∧ ((cs.foldl (joinF es) a).1 = 0 ↔ a.1 = 0 ∧ ∀ c ∈ cs, (ed es c).1 = 0)
  | [], a, _, _, _ => ⟨Int.le_refl _, by simp, by simp⟩
  | c :: r, a, h0, h1, hc => by
    have hcb := hc c (by simp)
    have hj : (joinF es a c).1 = min far (a.1 + (ed es c).1) := rfl
    obtain ⟨q1, q2, q3⟩ := join_sum r (joinF es a c) (by rw [hj]; omega) (by rw [hj]; omega) fun x hx => hc x (by simp [hx])
    refine ⟨?_, fun x hx => ?_, ?_⟩
    · rw [List.foldl_cons]; rw [hj] at q1; omega
    · rw [List.foldl_cons]
      rcases List.mem_cons.1 hx with rfl | hx
      · rw [hj] at q1; omega
      · exact q2 x hx
    · rw [List.foldl_cons, q3, hj]
      constructor
      · rintro ⟨e1, e2⟩
        refine ⟨by simp only [far] at *; omega, fun x hx => ?_⟩
        rcases List.mem_cons.1 hx with rfl | hx
        · simp only [far] at *; omega
        · exact e2 x hx
      · rintro ⟨e1, e2⟩
        have := e2 c (by simp)
        exact ⟨by simp only [far]; omega, fun x hx => e2 x (by simp [hx])⟩
/-- Small efforts do not reach the cap. -/
theorem join_small {es : List Ef} : ∀ (cs : List Int) (a : Ef), 0 ≤ a.1 → a.1 ≤ a.2.length → (∀ c ∈ cs, 0 ≤ (ed es c).1 ∧ (ed es c).1 ≤ (ed es c).2.length) → (cs.foldl (joinF es) a).1 ≤ (cs.foldl (joinF es) a).2.length
  | [], a, _, h, _ => h
  | c :: r, a, h0, h, hc => by
    have hcb := hc c (by simp)
    refine join_small r (joinF es a c) (by simp only [joinF, far]; omega) ?_ fun x hx => hc x (by simp [hx])
    simp only [joinF, List.length_append]
    omega
structure Small (l : List Nd) (e : Ef) : Prop where
  lo : 0 ≤ e.1
  hi : e.1 ≤ far
  sm : e.1 < far → e.1 ≤ e.2.length
theorem need_small {l : List Nd} {dep : List Int} {mx : Bool} {lf : Int → Int} {es : List Ef} (hT : TF l dep) (hN : NeedP l dep mx lf es) (h : ∀ i : Nat, leafB l i = true → lf i = 0 ∨ lf i = 1 ∨ lf i = far) :
    ∀ j : Nat, j < l.length → GoodE l j (es.getD j (0, [])).2 ∧ Small l (es.getD j (0, [])) := by
  refine need_all hT hN (Q := fun j => GoodE l j (es.getD j (0, [])).2 ∧ Small l (es.getD j (0, []))) fun j hj hk => ?_
  have hk' : ∀ c ∈ kid l j, GoodE l c (ed es c).2 ∧ Small l (ed es c) := fun c hc => by obtain ⟨i, rfl, _, h⟩ := hk c hc; exact h
  rw [hN.at_ j hj]
  refine ⟨NE_good hT hj fun c hc => (hk' c hc).1, ?_⟩
  have hbd := NE_bd (mx := mx) (dep := dep) (lf := lf) (es := es) (j := j) (fun hl => by rcases h j hl with e | e | e <;> rw [e] <;> decide) fun c hc => ⟨(hk' c hc).2.lo, (hk' c hc).2.hi⟩
  refine ⟨hbd.1, hbd.2, ?_⟩
  unfold NE
  split
  · rename_i hl
    intro hlt
    rcases h j hl with e | e | e <;> simp only [e] at hlt ⊢ <;> simp at hlt ⊢
  · split
    · intro hlt
      obtain ⟨_, _, h3⟩ := pick_le (es := es) (kid l j) (far, [])
      rcases h3 with h3 | ⟨c, hc, h3⟩
      · rw [h3] at hlt; simp at hlt
      · rw [h3] at hlt ⊢; exact (hk' c hc).2.sm hlt
    · intro hlt
      obtain ⟨_, h2, _⟩ := join_sum (es := es) (kid l j) (0, []) (by decide) (by decide) fun c hc => ⟨(hk' c hc).2.lo, (hk' c hc).2.hi⟩
      exact join_small (kid l j) (0, []) (by decide) (by simp) fun c hc => ⟨(hk' c hc).2.lo, (hk' c hc).2.sm (Int.lt_of_le_of_lt (h2 c hc) hlt)⟩
theorem small60 {l : List Nd} {dep : List Int} (hT : TF l dep) {j : Int} {e : Ef} (hg : GoodE l j e.2) (hs : Small l e) (h : e.1 < far) : e.1 ≤ 60 := by
  have := hs.sm h
  have := hg.len
  have := hT.n60
  omega
theorem pickZ {es : List Ef} {cs : List Int} (h : ∀ c ∈ cs, 0 ≤ (ed es c).1) : (cs.foldl (pickF es) (far, [])).1 = 0 ↔ ∃ c ∈ cs, (ed es c).1 = 0 := by
  obtain ⟨h1, h2, h3⟩ := pick_le (es := es) cs (far, [])
  constructor
  · intro e
    rcases h3 with h3 | ⟨c, hc, h3⟩
    · rw [h3] at e; simp [far] at e
    · exact ⟨c, hc, by rw [← h3]; exact e⟩
  · rintro ⟨c, hc, e⟩
    have := h2 c hc
    rcases h3 with h3 | ⟨x, hx, h3⟩
    · rw [h3, e] at this; simp [far] at this
    · have q := h x hx; rw [← h3] at q; omega
theorem pickFar {es : List Ef} {cs : List Int} (h : ∀ c ∈ cs, (ed es c).1 ≤ far) : (cs.foldl (pickF es) (far, [])).1 = far ↔ ∀ c ∈ cs, (ed es c).1 = far := by
  obtain ⟨h1, h2, h3⟩ := pick_le (es := es) cs (far, [])
  constructor
  · intro e c hc
    have := h2 c hc
    have := h c hc
    omega
  · intro e
    rcases h3 with h3 | ⟨x, hx, h3⟩
    · rw [h3]
    · rw [h3]; exact e x hx
theorem joinFar {l : List Nd} {dep : List Int} (hT : TF l dep) {es : List Ef} {j : Nat} (hj : j < l.length) (h : ∀ c ∈ kid l j, GoodE l c (ed es c).2 ∧ Small l (ed es c)) : ((kid l j).foldl (joinF es) (0, [])).1 = far ↔ ∃ c ∈ kid l j, (ed es c).1 = far := by
  obtain ⟨h1, h2, h3⟩ := join_sum (es := es) (kid l j) (0, []) (by decide) (by decide) fun c hc => ⟨(h c hc).2.lo, (h c hc).2.hi⟩
  have hbd : ((kid l j).foldl (joinF es) (0, [])).1 ≤ far := by
    have : ∀ (cs : List Int) (a : Ef), a.1 ≤ far → (cs.foldl (joinF es) a).1 ≤ far := by
      intro cs
      induction cs with
      | nil => intro a ha; exact ha
      | cons c r ih => intro a ha; exact ih _ (by simp only [joinF]; omega)
    exact this _ _ (by decide)
  constructor
  · intro e
    by_cases hx : ∃ c ∈ kid l j, (ed es c).1 = far
    · exact hx
    · exfalso
      have hs := join_small (es := es) (kid l j) (0, []) (by decide) (by simp) fun c hc => ⟨(h c hc).2.lo, (h c hc).2.sm (by
        have := (h c hc).2.hi
        have : (ed es c).1 ≠ far := fun e => hx ⟨c, hc, e⟩
        omega)⟩
      have hg := (good_join hT hj (fun c hc => (h c hc).1) (kid l j).length (Nat.le_refl _)).1.len
      rw [List.take_length] at hg
      have := hT.n60
      rw [e] at hs
      simp only [far] at hs
      omega
  · rintro ⟨c, hc, e⟩
    have := h2 c hc
    omega
theorem joinZ {es : List Ef} {cs : List Int} (h : ∀ c ∈ cs, 0 ≤ (ed es c).1 ∧ (ed es c).1 ≤ far) : (cs.foldl (joinF es) (0, [])).1 = 0 ↔ ∀ c ∈ cs, (ed es c).1 = 0 := by
  obtain ⟨_, _, h3⟩ := join_sum (es := es) cs (0, []) (by decide) (by decide) h
  rw [h3]
  simp
theorem dual {l : List Nd} {dep : List Int} {tf ff : Int → Int} {es fs : List Ef} (hT : TF l dep) (hE : NeedP l dep true tf es) (hF : NeedP l dep false ff fs) (ht : ∀ i : Nat, leafB l i = true → tf i = 0 ∨ tf i = 1 ∨ tf i = far) (hf : ∀ i : Nat, leafB l i = true → ff i = 0 ∨ ff i = 1 ∨ ff i = far)
    (h : ∀ i : Nat, i < l.length → leafB l i = true → (tf i = 0 ↔ ff i = far) ∧ (ff i = 0 ↔ tf i = far)) : ∀ j : Nat, j < l.length → ((es.getD j (0, [])).1 = 0 ↔ (fs.getD j (0, [])).1 = far) ∧ ((fs.getD j (0, [])).1 = 0 ↔ (es.getD j (0, [])).1 = far) := by
  have sE := need_small hT hE ht
  have sF := need_small hT hF hf
  refine need_all hT hE (Q := fun j => ((es.getD j (0, [])).1 = 0 ↔ (fs.getD j (0, [])).1 = far) ∧ ((fs.getD j (0, [])).1 = 0 ↔ (es.getD j (0, [])).1 = far)) fun j hj hk => ?_
  have kE : ∀ c ∈ kid l j, GoodE l c (ed es c).2 ∧ Small l (ed es c) := fun c hc => by obtain ⟨i, rfl, hi, _⟩ := hk c hc; exact sE i hi
  have kF : ∀ c ∈ kid l j, GoodE l c (ed fs c).2 ∧ Small l (ed fs c) := fun c hc => by obtain ⟨i, rfl, hi, _⟩ := hk c hc; exact sF i hi
  have kD : ∀ c ∈ kid l j, ((ed es c).1 = 0 ↔ (ed fs c).1 = far) ∧ ((ed fs c).1 = 0 ↔ (ed es c).1 = far) := fun c hc => by obtain ⟨i, rfl, hi, h⟩ := hk c hc; exact h
  rw [hE.at_ j hj, hF.at_ j hj]
  unfold NE
  by_cases hl : leafB l j = true
  · rw [if_pos hl, if_pos hl]; exact h j hj hl
  · rw [if_neg hl, if_neg hl]
    by_cases he : evB dep j = true
    · rw [if_pos (by rw [he]; rfl), if_neg (by rw [he]; simp), pickZ fun c hc => (kE c hc).2.lo, pickFar fun c hc => (kE c hc).2.hi, joinFar hT hj kF, joinZ fun c hc => ⟨(kF c hc).2.lo, (kF c hc).2.hi⟩]
      exact ⟨⟨fun ⟨c, hc, e⟩ => ⟨c, hc, (kD c hc).1.1 e⟩, fun ⟨c, hc, e⟩ => ⟨c, hc, (kD c hc).1.2 e⟩⟩, ⟨fun e c hc => (kD c hc).2.1 (e c hc), fun e c hc => (kD c hc).2.2 (e c hc)⟩⟩
    · have he' : evB dep j = false := by simpa using he
      rw [if_neg (by rw [he']; simp), if_pos (by rw [he']; rfl), pickZ fun c hc => (kF c hc).2.lo, pickFar fun c hc => (kF c hc).2.hi, joinFar hT hj kE, joinZ fun c hc => ⟨(kE c hc).2.lo, (kE c hc).2.hi⟩]
      exact ⟨⟨fun e c hc => (kD c hc).1.1 (e c hc), fun e c hc => (kD c hc).1.2 (e c hc)⟩, ⟨fun ⟨c, hc, e⟩ => ⟨c, hc, (kD c hc).2.1 e⟩, fun ⟨c, hc, e⟩ => ⟨c, hc, (kD c hc).2.2 e⟩⟩⟩
theorem maxL_ge {cs : List Int} {g : Int → Int} {b : Int} (h0 : cs ≠ []) : b ≤ maxL (cs.map g) ↔ ∃ c ∈ cs, b ≤ g c := by
  cases cs with
  | nil => exact absurd rfl h0
  | cons c r =>
    have : ∀ (r : List Int) (a : Int), b ≤ (r.map g).foldl max a ↔ b ≤ a ∨ ∃ c ∈ r, b ≤ g c := by
      intro r
      induction r with
      | nil => intro a; simp
      | cons x r ih =>
        intro a
        have hm : b ≤ max a (g x) ↔ b ≤ a ∨ b ≤ g x := by omega
        rw [List.map_cons, List.foldl_cons, ih, hm, or_assoc]
        simp only [List.mem_cons, exists_eq_or_imp]
    simp only [maxL, List.map_cons]
    rw [this]
    simp
theorem minL_ge {cs : List Int} {g : Int → Int} {b : Int} (h0 : cs ≠ []) : b ≤ minL (cs.map g) ↔ ∀ c ∈ cs, b ≤ g c := by
  cases cs with
  | nil => exact absurd rfl h0
  | cons c r =>
    have : ∀ (r : List Int) (a : Int), b ≤ (r.map g).foldl min a ↔ b ≤ a ∧ ∀ c ∈ r, b ≤ g c := by
      intro r
      induction r with
      | nil => intro a; simp
      | cons x r ih =>
        intro a
        have hm : b ≤ min a (g x) ↔ b ≤ a ∧ b ≤ g x := by omega
        rw [List.map_cons, List.foldl_cons, ih, hm, and_assoc]
        simp only [List.mem_cons, forall_eq_or_imp]
    simp only [minL, List.map_cons]
    rw [this]
    simp
/-- No effort is needed exactly where the value suffices. -/
theorem zero_iff {l : List Nd} {dep : List Int} {tf wf : Int → Int} {es : List Ef} {vs : List Int} {b : Int} (hT : TF l dep) (hE : NeedP l dep true tf es) (hv : ValP l dep wf vs) (ht : ∀ i : Nat, leafB l i = true → tf i = 0 ∨ tf i = 1 ∨ tf i = far)
    (h : ∀ i : Nat, i < l.length → leafB l i = true → (tf i = 0 ↔ b ≤ wf i)) : ∀ j : Nat, j < l.length → ((es.getD j (0, [])).1 = 0 ↔ b ≤ vs.getD j 0) := by
  have sE := need_small hT hE ht
  refine need_all hT hE (Q := fun j => ((es.getD j (0, [])).1 = 0 ↔ b ≤ vs.getD j 0)) fun j hj hk => ?_
  have kE : ∀ c ∈ kid l j, GoodE l c (ed es c).2 ∧ Small l (ed es c) := fun c hc => by obtain ⟨i, rfl, hi, _⟩ := hk c hc; exact sE i hi
  have kD : ∀ c ∈ kid l j, ((ed es c).1 = 0 ↔ b ≤ rd vs c) := fun c hc => by obtain ⟨i, rfl, hi, h⟩ := hk c hc; exact h
  rw [hE.at_ j hj, hv.at_ j hj]
  unfold NE NV
  by_cases hl : leafB l j = true
  · rw [if_pos hl, if_pos hl]; exact h j hj hl
  · rw [if_neg hl, if_neg hl]
    have hne : kid l j ≠ [] := fun e => hl (by unfold leafB; rw [e]; rfl)
    by_cases he : evB dep j = true
    · rw [if_pos (by rw [he]; rfl), if_pos he, pickZ fun c hc => (kE c hc).2.lo, maxL_ge hne]
      exact ⟨fun ⟨c, hc, e⟩ => ⟨c, hc, (kD c hc).1 e⟩, fun ⟨c, hc, e⟩ => ⟨c, hc, (kD c hc).2 e⟩⟩
    · rw [if_neg (by simpa using he), if_neg he, joinZ fun c hc => ⟨(kE c hc).2.lo, (kE c hc).2.hi⟩, minL_ge hne]
      exact ⟨fun e c hc => (kD c hc).1 (e c hc), fun e c hc => (kD c hc).2 (e c hc)⟩
/-- What holds for the leaves' efforts and goes through least ones and sums. -/
theorem zero_mono {l : List Nd} {dep : List Int} {mx : Bool} {tf tg : Int → Int} {es gs : List Ef} (hT : TF l dep) (hE : NeedP l dep mx tf es) (hG : NeedP l dep mx tg gs) (ht : ∀ i : Nat, leafB l i = true → tf i = 0 ∨ tf i = 1 ∨ tf i = far) (hg : ∀ i : Nat, leafB l i = true → tg i = 0 ∨ tg i = 1 ∨ tg i = far)
    (h : ∀ i : Nat, i < l.length → leafB l i = true → tf i = 0 → tg i = 0) : ∀ j : Nat, j < l.length → (es.getD j (0, [])).1 = 0 → (gs.getD j (0, [])).1 = 0 := by
  have sE := need_small hT hE ht
  have sG := need_small hT hG hg
  refine need_all hT hE (Q := fun j => (es.getD j (0, [])).1 = 0 → (gs.getD j (0, [])).1 = 0) fun j hj hk => ?_
  have kE : ∀ c ∈ kid l j, GoodE l c (ed es c).2 ∧ Small l (ed es c) := fun c hc => by obtain ⟨i, rfl, hi, _⟩ := hk c hc; exact sE i hi
  have kG : ∀ c ∈ kid l j, GoodE l c (ed gs c).2 ∧ Small l (ed gs c) := fun c hc => by obtain ⟨i, rfl, hi, _⟩ := hk c hc; exact sG i hi
  have kD : ∀ c ∈ kid l j, (ed es c).1 = 0 → (ed gs c).1 = 0 := fun c hc => by obtain ⟨i, rfl, hi, h⟩ := hk c hc; exact h
  rw [hE.at_ j hj, hG.at_ j hj]
  unfold NE
  by_cases hl : leafB l j = true
  · rw [if_pos hl, if_pos hl]; exact h j hj hl
  · rw [if_neg hl, if_neg hl]
    by_cases he : (evB dep j == mx) = true
    · rw [if_pos he, if_pos he, pickZ fun c hc => (kE c hc).2.lo, pickZ fun c hc => (kG c hc).2.lo]
      exact fun ⟨c, hc, e⟩ => ⟨c, hc, kD c hc e⟩
    · rw [if_neg he, if_neg he, joinZ fun c hc => ⟨(kE c hc).2.lo, (kE c hc).2.hi⟩, joinZ fun c hc => ⟨(kG c hc).2.lo, (kG c hc).2.hi⟩]
      exact fun e c hc => kD c hc (e c hc)
/-- Where no leaf is free, no node is. -/
theorem zero_none {l : List Nd} {dep : List Int} {mx : Bool} {tf : Int → Int} {es : List Ef} (hT : TF l dep) (hE : NeedP l dep mx tf es) (ht : ∀ i : Nat, leafB l i = true → tf i = 0 ∨ tf i = 1 ∨ tf i = far)
    (h : ∀ i : Nat, i < l.length → leafB l i = true → tf i ≠ 0) : ∀ j : Nat, j < l.length → (es.getD j (0, [])).1 ≠ 0 := by
  have sE := need_small hT hE ht
  refine need_all hT hE (Q := fun j => (es.getD j (0, [])).1 ≠ 0) fun j hj hk => ?_
  have kE : ∀ c ∈ kid l j, GoodE l c (ed es c).2 ∧ Small l (ed es c) := fun c hc => by obtain ⟨i, rfl, hi, _⟩ := hk c hc; exact sE i hi
  have kD : ∀ c ∈ kid l j, (ed es c).1 ≠ 0 := fun c hc => by obtain ⟨i, rfl, hi, h⟩ := hk c hc; exact h
  rw [hE.at_ j hj]
  unfold NE
  by_cases hl : leafB l j = true
  · rw [if_pos hl]; exact h j hj hl
  · rw [if_neg hl]
    have hne : kid l j ≠ [] := fun e => hl (by unfold leafB; rw [e]; rfl)
    by_cases he : (evB dep j == mx) = true
    · rw [if_pos he, ne_eq, pickZ fun c hc => (kE c hc).2.lo]
      exact fun ⟨c, hc, e⟩ => kD c hc e
    · rw [if_neg he, ne_eq, joinZ fun c hc => ⟨(kE c hc).2.lo, (kE c hc).2.hi⟩]
      intro e
      cases hk2 : kid l j with
      | nil => exact hne hk2
      | cons c r => have hm : c ∈ kid l j := by rw [hk2]; simp
                    exact kD c hm (e c hm)
/-- Where every leaf is free or out of reach, so is every node. -/
theorem zero_or_far {l : List Nd} {dep : List Int} {mx : Bool} {tf : Int → Int} {es : List Ef} (hT : TF l dep) (hE : NeedP l dep mx tf es) (ht : ∀ i : Nat, leafB l i = true → tf i = 0 ∨ tf i = 1 ∨ tf i = far)
    (h : ∀ i : Nat, i < l.length → leafB l i = true → tf i = 0 ∨ tf i = far) : ∀ j : Nat, j < l.length → (es.getD j (0, [])).1 = 0 ∨ (es.getD j (0, [])).1 = far := by
  have sE := need_small hT hE ht
  refine need_all hT hE (Q := fun j => (es.getD j (0, [])).1 = 0 ∨ (es.getD j (0, [])).1 = far) fun j hj hk => ?_
  have kE : ∀ c ∈ kid l j, GoodE l c (ed es c).2 ∧ Small l (ed es c) := fun c hc => by obtain ⟨i, rfl, hi, _⟩ := hk c hc; exact sE i hi
  have kD : ∀ c ∈ kid l j, (ed es c).1 = 0 ∨ (ed es c).1 = far := fun c hc => by obtain ⟨i, rfl, hi, h⟩ := hk c hc; exact h
  rw [hE.at_ j hj]
  unfold NE
  by_cases hl : leafB l j = true
  · rw [if_pos hl]; exact h j hj hl
  · rw [if_neg hl]
    by_cases he : (evB dep j == mx) = true
    · rw [if_pos he]
      obtain ⟨_, _, h3⟩ := pick_le (es := es) (kid l j) (far, [])
      rcases h3 with h3 | ⟨c, hc, h3⟩
      · rw [h3]; exact .inr rfl
      · rw [h3]; exact kD c hc
    · rw [if_neg he, joinFar hT hj kE, joinZ fun c hc => ⟨(kE c hc).2.lo, (kE c hc).2.hi⟩]
      by_cases hx : ∃ c ∈ kid l j, (ed es c).1 = far
      · exact .inr hx
      · exact .inl fun c hc => by rcases kD c hc with e | e; exact e; exact absurd ⟨c, hc, e⟩ hx
end Go.Proofs.Ytdiljpnfochndaa.HP
