/- A part of the walk: what this seat's statements share. -/
import Derived.Test.YtdiljpnfochndaaZHP5
set_option linter.unusedVariables false
set_option linter.unusedSimpArgs false
/- What a tree must fulfil; and that it is one then. -/
namespace Go.Proofs.Ytdiljpnfochndaa.HP
structure TK (l : List Nd) : Prop where
  n1 : 1 ≤ l.length
  n60 : l.length ≤ 60
  kin : ∀ a b : Nat, a < l.length → b < (kid l a).length → (a : Int) < k_ l a b ∧ k_ l a b < l.length
  inj : ∀ a b a' b' : Nat, a < l.length → b < (kid l a).length → a' < l.length → b' < (kid l a').length → k_ l a b = k_ l a' b' → a = a' ∧ b = b'
  cov : ∀ c : Nat, 1 ≤ c → c < l.length → ∃ a b : Nat, a < l.length ∧ b < (kid l a).length ∧ k_ l a b = c
  wor : ∀ a : Nat, a < l.length → -100 ≤ wor l a ∧ Go.Proofs.Ytdiljpnfochndaa.HP.wor l a ≤ 100 ∧ (0 < (kid l a).length → Go.Proofs.Ytdiljpnfochndaa.HP.wor l a = 0)
theorem TF.tk {l : List Nd} {dep : List Int} (h : TF l dep) : TK l := ⟨h.n1, h.n60, h.kin, h.inj, h.cov, h.wor⟩
theorem kids_go {l : List Nd} (hT : TK l) {i : Nat} (hi : i < l.length) (d : Nat) : ∀ (j : Nat) (dep : List Int), (kid l i).length - j = d → j ≤ (kid l i).length → Inv l i j dep → j ≤ cnt dep → ∃ dep', kidsStep l.length i ((kid l i).drop j) dep = some dep' := by
  induction d with
  | zero =>
    intro j dep hd hj h hjc
    rw [List.drop_eq_nil_of_le (by omega)]
    exact ⟨dep, rfl⟩
  | succ d ih =>
    intro j dep hd hj h hjc
    have hlt : j < (kid l i).length := by omega
    rw [kids_at _ _ _ _ _ hlt]
    have hk := hT.kin i j hi hlt
    have h3 : rd dep (k_ l i j) ≤ 0 := by
      by_cases e : rd dep (k_ l i j) ≤ 0
      · exact e
      · have hp : 0 < dep.getD (k_ l i j).toNat 0 := by simp only [rd] at e; omega
        obtain ⟨a, b, h1, h2, h4⟩ := h.p2 _ hp
        have ha : a < l.length := by unfold Dn at h1; omega
        have := hT.inj a b i j ha h2 hi hlt (by rw [h4]; omega)
        unfold Dn at h1
        omega
    have hc : (i : Int) + 1 ≤ (kid l i).getD j 0 ∧ (kid l i).getD j 0 ≤ (l.length : Int) - 1 ∧ rd dep ((kid l i).getD j 0) ≤ 0 := ⟨by have := hk.1; simp only [k_] at this; omega, by have := hk.2; simp only [k_] at this; omega, h3⟩
    rw [if_pos hc]
    have hbi := h.p4 i
    have h3' := h3
    simp only [rd] at h3'
    have hcc : cnt (dep.set (k_ l i j).toNat (rd dep i + 1)) = cnt dep + 1 := cnt_set (by rw [h.len]; omega) h3' (by simp only [rd, Int.toNat_natCast]; omega)
    exact ih (j + 1) _ (by omega) (by omega) (inv_step h hi hlt hc.1 hc.2.1 hc.2.2 (fun b hb => by omega) hjc) (by simp only [k_] at hcc; rw [hcc]; omega)
theorem node_step {l : List Nd} {i : Nat} {dep dep1 : List Int} (hlt : i < l.length) (h : NInv l i dep) (hc : ¬ ((0 < (i : Int) ∧ rd dep i = 0) ∨ ¬ (-100 ≤ wor l i ∧ wor l i ≤ 100) ∨ (0 < (kid l i).length ∧ wor l i ≠ 0))) (h1 : kidsStep l.length i (kid l i) dep = some dep1) : NInv l (i + 1) dep1 := by
  have hk := kids_inv hlt _ 0 dep dep1 rfl (Nat.zero_le _) h.inv (Nat.zero_le _) (by simpa using h1)
  have hkeep := kids_keep _ 0 dep dep1 rfl h.inv.len (by simpa using h1)
  refine ⟨⟨hk.len, ?_, ?_, ?_, hk.p4, ?_⟩, ?_, ?_⟩
  · intro a b hd hl; exact hk.p1 a b (by unfold Dn at *; by_cases e : a = i; subst e; exact .inr ⟨rfl, hl⟩; omega) hl
  · intro c hc; obtain ⟨a, b, h1, h2, h3⟩ := hk.p2 c hc; exact ⟨a, b, by unfold Dn at *; omega, h2, h3⟩
  · intro a b a' b' hd hl hd' hl' he
    exact hk.p3 a b a' b' (by unfold Dn at *; by_cases e : a = i; subst e; exact .inr ⟨rfl, hl⟩; omega) hl (by unfold Dn at *; by_cases e : a' = i; subst e; exact .inr ⟨rfl, hl'⟩; omega) hl' he
  · intro a b hd hl; exact hk.p5 a b (by unfold Dn at *; by_cases e : a = i; subst e; exact .inr ⟨rfl, hl⟩; omega) hl
  · intro c hc1 hc2
    rw [hkeep c (by omega)]
    by_cases e : c = i
    · subst e
      have := h.inv.p4 c
      simp only [rd, Int.toNat_natCast] at hc
      omega
    · exact h.pos c hc1 (by omega)
  · intro a ha
    by_cases e : a = i
    · subst e
      by_cases h1 : -100 ≤ Go.Proofs.Ytdiljpnfochndaa.HP.wor l a ∧ Go.Proofs.Ytdiljpnfochndaa.HP.wor l a ≤ 100
      · refine ⟨h1.1, h1.2, fun hp => ?_⟩
        by_cases h2 : Go.Proofs.Ytdiljpnfochndaa.HP.wor l a = 0
        · exact h2
        · exact absurd (.inr (.inr ⟨hp, h2⟩)) hc
      · exact absurd (.inr (.inl h1)) hc
    · exact h.wor a (by omega)
theorem nodes_go {l : List Nd} (hT : TK l) (d : Nat) : ∀ (i : Nat) (dep : List Int), l.length - i = d → i ≤ l.length → NInv l i dep → ∃ dep', nodesStep l.length i (l.drop i) dep = some dep' := by
  induction d with
  | zero =>
    intro i dep hd hi h
    rw [List.drop_eq_nil_of_le (by omega)]
    exact ⟨dep, rfl⟩
  | succ d ih =>
    intro i dep hd hi h
    have hlt : i < l.length := by omega
    rw [nodes_at _ _ _ _ hlt]
    have hw := hT.wor i hlt
    have hc : ¬ ((0 < (i : Int) ∧ rd dep i = 0) ∨ ¬ (-100 ≤ wor l i ∧ wor l i ≤ 100) ∨ (0 < (kid l i).length ∧ wor l i ≠ 0)) := by
      rintro (⟨h1, h2⟩ | h1 | ⟨h1, h2⟩)
      · obtain ⟨a, b, ha, hb, he⟩ := hT.cov i (by omega) hlt
        have hk := hT.kin a b ha hb
        have := h.inv.p1 a b (by unfold Dn; omega) hb
        rw [he] at this
        have h4 := h.inv.p4 a
        have h5 := this.2.2
        simp only [rd, Int.toNat_natCast] at h5 h2
        omega
      · exact h1 ⟨hw.1, hw.2.1⟩
      · exact h2 (hw.2.2 h1)
    rw [if_neg hc]
    obtain ⟨dep1, h1⟩ := kids_go hT hlt _ 0 dep rfl (Nat.zero_le _) h.inv (Nat.zero_le _)
    rw [List.drop_zero] at h1
    rw [h1]
    exact ih (i + 1) dep1 (by omega) (by omega) (node_step hlt h hc h1)
theorem cnt_all {dep : List Int} (h0 : dep.getD 0 0 ≤ 0) (h : ∀ c : Nat, 1 ≤ c → c < dep.length → 0 < dep.getD c 0) (hl : 1 ≤ dep.length) : 1 + cnt dep = dep.length := by
  cases dep with
  | nil => simp at hl
  | cons a r =>
    simp only [List.getD_cons_zero] at h0
    have : r.countP (fun x => decide (0 < x)) = r.length := by
      rw [List.countP_eq_length]
      intro x hx
      obtain ⟨i, hi, rfl⟩ := List.mem_iff_getElem.1 hx
      have := h (i + 1) (by omega) (by simp; omega)
      simp only [List.getD_cons_succ] at this
      rw [List.getD_eq_getElem?_getD, List.getElem?_eq_getElem hi] at this
      simpa using this
    simp only [cnt, List.countP_cons, this, List.length_cons]
    rw [if_neg (by simpa using h0)]
    omega
theorem TK.game {l : List Nd} (hT : TK l) : ∃ dep, gameOf l = some dep := by
  have hz : ∀ c : Nat, (List.replicate l.length (0 : Int)).getD c 0 = 0 := by
    intro c; rw [List.getD_eq_getElem?_getD, List.getElem?_replicate]; split <;> rfl
  have hI : NInv l 0 (List.replicate l.length 0) := ⟨⟨by simp, fun a b hd => by unfold Dn at hd; omega, fun c hc => by rw [hz] at hc; omega, fun a b a' b' hd => by unfold Dn at hd; omega, fun c => by rw [hz]; omega, fun a b hd => by unfold Dn at hd; omega⟩, fun c h1 h2 => by omega, fun a ha => by omega⟩
  obtain ⟨dep, hd⟩ := nodes_go hT _ 0 _ rfl (Nat.zero_le _) hI
  have hE := nodes_inv _ 0 _ dep rfl (Nat.zero_le _) hI hd
  rw [List.drop_zero] at hd
  refine ⟨dep, ?_⟩
  unfold gameOf
  rw [if_pos ⟨hT.n1, hT.n60⟩]
  have hd' : nodesStep (l.length : Int) 0 l (List.replicate l.length 0) = some dep := hd
  rw [hd', Option.bind_some, if_pos]
  rw [← hE.inv.len]
  exact cnt_all (by have := hE.inv.p4 0; omega) (fun c h1 h2 => hE.pos c h1 (by rw [← hE.inv.len]; exact h2)) (by rw [hE.inv.len]; exact hT.n1)
end Go.Proofs.Ytdiljpnfochndaa.HP
