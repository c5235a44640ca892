/- A part of the walk: what this seat's statements share. -/
import Derived.Test.YtdiljpnfochndaaZHP4
set_option linter.unusedVariables false
set_option linter.unusedSimpArgs false
/- The search. -/
namespace Go.Proofs.Ytdiljpnfochndaa.HP
def kidsS (rec : Int → Int → Int → Int × List Int) (ev : Bool) : List Int → Int → Int → Int × Int × List Int
  | [], lo, hi => (lo, hi, [])
  | c :: r, lo, hi =>
    if (if ev then hi else min hi (rec c lo hi).1) ≤ (if ev then max lo (rec c lo hi).1 else lo) then ((if ev then max lo (rec c lo hi).1 else lo), (if ev then hi else min hi (rec c lo hi).1), (rec c lo hi).2) else
      ((kidsS rec ev r (if ev then max lo (rec c lo hi).1 else lo) (if ev then hi else min hi (rec c lo hi).1)).1, (kidsS rec ev r (if ev then max lo (rec c lo hi).1 else lo) (if ev then hi else min hi (rec c lo hi).1)).2.1,
        (rec c lo hi).2 ++ (kidsS rec ev r (if ev then max lo (rec c lo hi).1 else lo) (if ev then hi else min hi (rec c lo hi).1)).2.2)
def srS (l : List Nd) (dep : List Int) : Nat → Int → Int → Int → Int × List Int
  | 0, _, _, _ => (0, [])
  | f + 1, i, lo, hi => if leafB l i then (wor l i, [i]) else
    (if evB dep i then (kidsS (srS l dep f) (evB dep i) (kid l i) lo hi).1 else (kidsS (srS l dep f) (evB dep i) (kid l i) lo hi).2.1, (kidsS (srS l dep f) (evB dep i) (kid l i) lo hi).2.2)
theorem anc_disj {l : List Nd} {dep : List Int} (hT : TF l dep) {j b t : Nat} (hj : j < l.length) (hb : b < (kid l j).length) (ht : t < (kid l j).length) {k k' : Nat} {x : Int} (h1 : Anc l k ((kid l j).getD b 0) x) (h2 : Anc l k' ((kid l j).getD t 0) x) : b = t := by
  have q1 := hT.kin j b hj hb
  have q2 := hT.kin j t hj ht
  have d1 := hT.kdep j b hj hb
  have d2 := hT.kdep j t hj ht
  simp only [k_] at q1 q2 d1 d2
  have e1 := h1.dep hT (by omega)
  have e2 := h2.dep hT (by omega)
  have hk : k = k' := by omega
  subst hk
  have := Anc.uniq hT (by omega) (by omega) h1 h2
  exact (hT.inj j b j t hj hb hj ht this).2
theorem kids_good {l : List Nd} {dep : List Int} (hT : TF l dep) {j : Nat} (hj : j < l.length) {rec : Int → Int → Int → Int × List Int} {ev : Bool} (hg : ∀ c ∈ kid l j, ∀ lo hi, GoodE l c (rec c lo hi).2) :
    ∀ (d t : Nat), (kid l j).length - t = d → t ≤ (kid l j).length → ∀ lo hi, GoodE l j (kidsS rec ev ((kid l j).drop t) lo hi).2.2 ∧ ∀ x ∈ (kidsS rec ev ((kid l j).drop t) lo hi).2.2, ∃ b k, t ≤ b ∧ b < (kid l j).length ∧ Anc l k ((kid l j).getD b 0) x := by
  intro d
  induction d with
  | zero =>
    intro t hd ht lo hi
    rw [List.drop_eq_nil_of_le (by omega)]
    exact ⟨GoodE.nil _ _, by simp [kidsS]⟩
  | succ d ih =>
    intro t hd ht lo hi
    rw [drop_get _ _ (0 : Int) (by omega)]
    have hmem : (kid l j).getD t 0 ∈ kid l j := by
      rw [List.getD_eq_getElem?_getD, List.getElem?_eq_getElem (by omega)]
      simp
    have hc := hg _ hmem lo hi
    simp only [kidsS]
    generalize (if ev then hi else min hi (rec ((kid l j).getD t 0) lo hi).1) = hi' at *
    generalize (if ev then max lo (rec ((kid l j).getD t 0) lo hi).1 else lo) = lo' at *
    split
    · exact ⟨hc.up hmem, fun x hx => by obtain ⟨_, _, _, k, ha⟩ := hc.mem x hx; exact ⟨t, k, Nat.le_refl _, by omega, ha⟩⟩
    · obtain ⟨h1, h2⟩ := ih (t + 1) (by omega) (by omega) lo' hi'
      refine ⟨⟨fun x hx => ?_, ?_⟩, fun x hx => ?_⟩
      · rcases List.mem_append.1 hx with hx | hx
        · exact (hc.up hmem).mem x hx
        · exact h1.mem x hx
      · simp only
        rw [List.nodup_append]
        refine ⟨hc.nd, h1.nd, fun x hx y hy e => ?_⟩
        subst e
        obtain ⟨b, k, hb, hbl, ha⟩ := h2 x hy
        obtain ⟨_, _, _, k', ha'⟩ := hc.mem x hx
        have := anc_disj hT hj hbl (by omega) ha ha'
        omega
      · rcases List.mem_append.1 hx with hx | hx
        · obtain ⟨_, _, _, k, ha⟩ := hc.mem x hx
          exact ⟨t, k, Nat.le_refl _, by omega, ha⟩
        · obtain ⟨b, k, hb, hbl, ha⟩ := h2 x hx
          exact ⟨b, k, by omega, hbl, ha⟩
theorem srS_good {l : List Nd} {dep : List Int} (hT : TF l dep) : ∀ (f : Nat) (i : Nat) (lo hi : Int), i < l.length → GoodE l i (srS l dep f i lo hi).2
  | 0, i, _, _, _ => GoodE.nil _ _
  | f + 1, i, lo, hi, hi' => by
    simp only [srS]
    split
    · rename_i hl
      refine ⟨fun x hx => ?_, by simp⟩
      simp at hx
      subst hx
      exact ⟨by omega, by omega, hl, 0, rfl⟩
    · have := (kids_good hT hi' (ev := evB dep i) (fun c hc lo hi => by
        obtain ⟨h1, h2⟩ := mem_kid hT hi' hc
        have := srS_good hT f c.toNat lo hi (by omega)
        rw [show ((c.toNat : Nat) : Int) = c by omega] at this
        exact this) _ 0 rfl (Nat.zero_le _) lo hi).1
      simpa using this
end Go.Proofs.Ytdiljpnfochndaa.HP
