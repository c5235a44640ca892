/- A part of the walk: what this seat's statements share. -/
import Derived.Test.YtdiljpnfochndaaZHP3
set_option linter.unusedVariables false
set_option linter.unusedSimpArgs false
/- Efforts: how many leaves are needed, and which. -/
namespace Go.Proofs.Ytdiljpnfochndaa.HP
abbrev far : Int := 1099511627776
abbrev Ef := Int × List Int
abbrev ed (es : List Ef) (c : Int) : Ef := es.getD c.toNat (0, [])
def pickF (es : List Ef) (a : Ef) (c : Int) : Ef := if (ed es c).1 < a.1 then ed es c else a
def joinF (es : List Ef) (a : Ef) (c : Int) : Ef := (min far (a.1 + (ed es c).1), a.2 ++ (ed es c).2)
def NE (l : List Nd) (dep : List Int) (mx : Bool) (lf : Int → Int) (es : List Ef) (j : Int) : Ef :=
  if leafB l j then (lf j, [j]) else if evB dep j == mx then (kid l j).foldl (pickF es) (far, []) else (kid l j).foldl (joinF es) (0, [])
structure NeedP (l : List Nd) (dep : List Int) (mx : Bool) (lf : Int → Int) (es : List Ef) : Prop where
  len : es.length = l.length
  at_ : ∀ j : Nat, j < l.length → es.getD j (0, []) = NE l dep mx lf es j
def Anc (l : List Nd) : Nat → Int → Int → Prop
  | 0, c, x => c = x
  | k + 1, c, x => ∃ c' ∈ kid l c, Anc l k c' x
theorem kid_at {l : List Nd} {i c : Int} (h : c ∈ kid l i) : ∃ b : Nat, b < (kid l i).length ∧ (kid l i).getD b 0 = c := by
  obtain ⟨b, hb, rfl⟩ := List.mem_iff_getElem.1 h
  exact ⟨b, hb, by simp [List.getD_eq_getElem?_getD, hb]⟩
theorem kid_lt {l : List Nd} {i c : Int} (h0 : 0 ≤ i) (h : c ∈ kid l i) : i < l.length := by
  by_cases hl : i.toNat < l.length
  · omega
  · unfold kid at h
    rw [List.getD_eq_getElem?_getD, List.getElem?_eq_none (by omega)] at h
    simp at h
theorem Anc.dep {l : List Nd} {dep : List Int} (h : TF l dep) : ∀ {k : Nat} {c x : Int}, 0 ≤ c → Anc l k c x → rd dep x = rd dep c + k ∧ c ≤ x
  | 0, c, x, _, ha => by simp only [Anc] at ha; subst ha; simp
  | k + 1, c, x, hc, ha => by
    obtain ⟨c', hm, ha⟩ := ha
    have hlt := kid_lt hc hm
    obtain ⟨m, rfl⟩ := Int.eq_ofNat_of_zero_le hc
    obtain ⟨b, hb, hb2⟩ := kid_at hm
    have h1 := h.kin m b (by omega) hb
    have h2 := h.kdep m b (by omega) hb
    simp only [k_] at h1 h2
    rw [hb2] at h1 h2
    have h3 := Anc.dep h (k := k) (by omega) ha
    refine ⟨?_, by omega⟩
    rw [h3.1, h2]
    omega
theorem Anc.uniq {l : List Nd} {dep : List Int} (h : TF l dep) : ∀ {k : Nat} {c c' x : Int}, 0 ≤ c → 0 ≤ c' → Anc l k c x → Anc l k c' x → c = c'
  | 0, c, c', x, _, _, h1, h2 => by simp only [Anc] at h1 h2; omega
  | k + 1, c, c', x, hc, hc', ⟨d, hd, h1⟩, ⟨d', hd', h2⟩ => by
    have hl := kid_lt hc hd
    have hl' := kid_lt hc' hd'
    obtain ⟨m, rfl⟩ := Int.eq_ofNat_of_zero_le hc
    obtain ⟨m', rfl⟩ := Int.eq_ofNat_of_zero_le hc'
    obtain ⟨b, hb, e⟩ := kid_at hd
    obtain ⟨b', hb', e'⟩ := kid_at hd'
    have q1 := h.kin m b (by omega) hb
    have q2 := h.kin m' b' (by omega) hb'
    simp only [k_] at q1 q2
    rw [e] at q1
    rw [e'] at q2
    have := Anc.uniq h (k := k) (by omega) (by omega) h1 h2
    have := (h.inj m b m' b' (by omega) hb (by omega) hb' (by simp only [k_]; omega)).1
    omega
structure GoodE (l : List Nd) (j : Int) (xs : List Int) : Prop where
  mem : ∀ x ∈ xs, 0 ≤ x ∧ x < l.length ∧ leafB l x = true ∧ ∃ k, Anc l k j x
  nd : xs.Nodup
theorem nodup_len : ∀ (n : Nat) (xs : List Int), xs.Nodup → (∀ x ∈ xs, 0 ≤ x ∧ x < n) → xs.length ≤ n
  | 0, xs, _, h => by
    cases xs with
    | nil => simp
    | cons a r => have := h a (by simp); omega
  | n + 1, xs, hn, h => by
    have h1 := nodup_len n (xs.erase n) (hn.erase _) (fun x hx => by
      have hm := (hn.mem_erase_iff).1 hx
      have := h x hm.2
      have := hm.1
      omega)
    rw [List.length_erase] at h1
    split at h1 <;> omega
theorem GoodE.len {l : List Nd} {j : Int} {xs : List Int} (h : GoodE l j xs) : xs.length ≤ l.length := nodup_len _ _ h.nd fun x hx => ⟨(h.mem x hx).1, (h.mem x hx).2.1⟩
theorem GoodE.nil (l : List Nd) (j : Int) : GoodE l j [] := ⟨by simp, by simp⟩
theorem GoodE.up {l : List Nd} {j c : Int} {xs : List Int} (h : GoodE l c xs) (hc : c ∈ kid l j) : GoodE l j xs :=
  ⟨fun x hx => by obtain ⟨h1, h2, h4, k, h3⟩ := h.mem x hx; exact ⟨h1, h2, h4, k + 1, c, hc, h3⟩, h.nd⟩
/-- The list behind the first t children, for him who needs all of them. -/
theorem good_join {l : List Nd} {dep : List Int} (hT : TF l dep) {j : Nat} (hj : j < l.length) {es : List Ef} (hg : ∀ c ∈ kid l j, GoodE l c (ed es c).2) (t : Nat) (ht : t ≤ (kid l j).length) :
    GoodE l j (((kid l j).take t).foldl (joinF es) (0, [])).2 ∧ ∀ x ∈ (((kid l j).take t).foldl (joinF es) (0, [])).2, ∃ b k, b < t ∧ Anc l k ((kid l j).getD b 0) x := by
  induction t with
  | zero => exact ⟨GoodE.nil _ _, by simp⟩
  | succ t ih =>
    obtain ⟨h1, h2⟩ := ih (by omega)
    rw [take_snoc _ _ (by omega), List.foldl_append]
    simp only [List.foldl_cons, List.foldl_nil, joinF]
    have hmem : (kid l j).getD t 0 ∈ kid l j := by
      rw [List.getD_eq_getElem?_getD, List.getElem?_eq_getElem (by omega)]
      simp
    have hc := hg _ hmem
    refine ⟨⟨fun x hx => ?_, ?_⟩, fun x hx => ?_⟩
    · rcases List.mem_append.1 hx with hx | hx
      · exact h1.mem x hx
      · exact (hc.up hmem).mem x hx
    · rw [List.nodup_append]
      refine ⟨h1.nd, hc.nd, fun x hx y hy e => ?_⟩
      subst e
      obtain ⟨b, k, hb, ha⟩ := h2 x hx
      obtain ⟨_, _, _, k', ha'⟩ := hc.mem x hy
      have q1 := hT.kin j b hj (by omega)
      have q2 := hT.kin j t hj (by omega)
      have d1 := hT.kdep j b hj (by omega)
      have d2 := hT.kdep j t hj (by omega)
      simp only [k_] at q1 q2 d1 d2
      have e1 := ha.dep hT (by omega)
      have e2 := ha'.dep hT (by omega)
      have hk : k = k' := by omega
      subst hk
      have := Anc.uniq hT (by omega) (by omega) ha ha'
      have := (hT.inj j b j t hj (by omega) hj (by omega) this).2
      omega
    · rcases List.mem_append.1 hx with hx | hx
      · obtain ⟨b, k, hb, ha⟩ := h2 x hx
        exact ⟨b, k, by omega, ha⟩
      · obtain ⟨_, _, _, k, ha⟩ := hc.mem x hx
        exact ⟨t, k, by omega, ha⟩
theorem good_pick {l : List Nd} {j : Nat} {es : List Ef} (hg : ∀ c ∈ kid l j, GoodE l c (ed es c).2) : ∀ cs : List Int, (∀ c ∈ cs, c ∈ kid l j) → ∀ a, GoodE l j a.2 → GoodE l j (cs.foldl (pickF es) a).2
  | [], _, a, ha => ha
  | c :: r, hc, a, ha => by
    refine good_pick hg r (fun c h => hc c (by simp [h])) _ ?_
    unfold pickF
    split
    · exact (hg c (hc c (by simp))).up (hc c (by simp))
    · exact ha
theorem NE_congr {l : List Nd} {dep : List Int} (h : TF l dep) {i : Nat} (hi : i < l.length) {mx : Bool} {lf : Int → Int} {es us : List Ef} (he : ∀ j : Nat, i < j → j < l.length → es.getD j (0, []) = us.getD j (0, [])) : NE l dep mx lf es i = NE l dep mx lf us i := by
  have hk : ∀ c ∈ kid l i, ed es c = ed us c := fun c hc => by
    obtain ⟨h1, h2⟩ := mem_kid h hi hc
    exact he c.toNat (by omega) (by omega)
  have hf : ∀ (cs : List Int) (f g : Ef → Int → Ef) (a : Ef), (∀ a, ∀ c ∈ cs, f a c = g a c) → cs.foldl f a = cs.foldl g a := by
    intro cs f g
    induction cs with
    | nil => intro a _; rfl
    | cons c r ih => intro a hh; simp only [List.foldl_cons]; rw [hh a c (by simp)]; exact ih _ fun a c hc => hh a c (by simp [hc])
  unfold NE
  rw [hf (kid l i) (pickF es) (pickF us) _ (fun a c hc => by simp only [pickF, hk c hc]), hf (kid l i) (joinF es) (joinF us) _ (fun a c hc => by simp only [joinF, hk c hc])]
theorem NeedP.uniq {l : List Nd} {dep : List Int} (h : TF l dep) {mx : Bool} {lf : Int → Int} {vs us : List Ef} (hv : NeedP l dep mx lf vs) (hu : NeedP l dep mx lf us) : vs = us := by
  have key : ∀ d j : Nat, l.length - j = d → j < l.length → vs.getD j (0, []) = us.getD j (0, []) := by
    intro d
    induction d using Nat.strongRecOn with
    | _ d ih =>
      intro j hd hj
      rw [hv.at_ j hj, hu.at_ j hj]
      exact NE_congr h hj fun q hq hql => ih (l.length - q) (by omega) q rfl hql
  apply List.ext_getElem (by rw [hv.len, hu.len])
  intro j h1 h2
  have := key _ j rfl (by rw [← hv.len]; exact h1)
  simpa [List.getD_eq_getElem?_getD, h1, h2] using this
theorem NE_good {l : List Nd} {dep : List Int} (hT : TF l dep) {mx : Bool} {lf : Int → Int} {es : List Ef} {j : Nat} (hj : j < l.length) (hg : ∀ c ∈ kid l j, GoodE l c (ed es c).2) : GoodE l j (NE l dep mx lf es j).2 := by
  unfold NE
  split
  · rename_i hl
    refine ⟨fun x hx => ?_, by simp⟩
    simp at hx
    subst hx
    exact ⟨by omega, by omega, hl, 0, rfl⟩
  · split
    · exact good_pick hg _ (fun c hc => hc) _ (GoodE.nil _ _)
    · have := (good_join hT hj hg (kid l j).length (Nat.le_refl _)).1
      rw [List.take_length] at this
      exact this
theorem NE_bd {l : List Nd} {dep : List Int} {mx : Bool} {lf : Int → Int} {es : List Ef} {j : Nat} (hlf : leafB l j = true → 0 ≤ lf j ∧ lf j ≤ far) (hb : ∀ c ∈ kid l j, 0 ≤ (ed es c).1 ∧ (ed es c).1 ≤ far) : 0 ≤ (NE l dep mx lf es j).1 ∧ (NE l dep mx lf es j).1 ≤ far := by
  have h1 : ∀ (cs : List Int), (∀ c ∈ cs, c ∈ kid l j) → ∀ a : Ef, 0 ≤ a.1 ∧ a.1 ≤ far → 0 ≤ (cs.foldl (pickF es) a).1 ∧ (cs.foldl (pickF es) a).1 ≤ far := by
    intro cs
    induction cs with
    | nil => intro _ a ha; exact ha
    | cons c r ih =>
      intro hc a ha
      refine ih (fun c h => hc c (by simp [h])) _ ?_
      unfold pickF
      split
      · exact hb c (hc c (by simp))
      · exact ha
  have h2 : ∀ (cs : List Int), (∀ c ∈ cs, c ∈ kid l j) → ∀ a : Ef, 0 ≤ a.1 ∧ a.1 ≤ far → 0 ≤ (cs.foldl (joinF es) a).1 ∧ (cs.foldl (joinF es) a).1 ≤ far := by
    intro cs
    induction cs with
    | nil => intro _ a ha; exact ha
    | cons c r ih =>
      intro hc a ha
      refine ih (fun c h => hc c (by simp [h])) _ ?_
      have := hb c (hc c (by simp))
      simp only [joinF]
      omega
  unfold NE
  split
  · rename_i hl; exact hlf hl
  · split
    · exact h1 _ (fun c hc => hc) _ ⟨by decide, by decide⟩
    · exact h2 _ (fun c hc => hc) _ ⟨by decide, by decide⟩
end Go.Proofs.Ytdiljpnfochndaa.HP
