/- A part of the walk: what this seat's statements share. -/
import Derived.Test.YtdiljpnfochndaaZHP
set_option linter.unusedVariables false
set_option linter.unusedSimpArgs false
/- What a tree's depths tell. -/
namespace Go.Proofs.Ytdiljpnfochndaa.HP
def k_ (l : List Nd) (a b : Nat) : Int := (kid l a).getD b 0
def Dn (i j a b : Nat) : Prop := a < i ∨ (a = i ∧ b < j)
structure Inv (l : List Nd) (i j : Nat) (dep : List Int) : Prop where
  len : dep.length = l.length
  p1 : ∀ a b, Dn i j a b → b < (kid l a).length → (a : Int) < k_ l a b ∧ k_ l a b < l.length ∧ rd dep (k_ l a b) = rd dep a + 1
  p2 : ∀ c : Nat, 0 < dep.getD c 0 → ∃ a b, Dn i j a b ∧ b < (kid l a).length ∧ k_ l a b = c
  p3 : ∀ a b a' b', Dn i j a b → b < (kid l a).length → Dn i j a' b' → b' < (kid l a').length → k_ l a b = k_ l a' b' → a = a' ∧ b = b'
  p4 : ∀ c : Nat, 0 ≤ dep.getD c 0 ∧ dep.getD c 0 ≤ c
  p5 : ∀ a b, Dn i j a b → b < (kid l a).length → b < cnt dep
theorem getD_set_eq {dep : List Int} {c : Nat} {x : Int} (h : c < dep.length) : (dep.set c x).getD c 0 = x := by
  rw [List.getD_eq_getElem?_getD, List.getElem?_set_self h]; rfl
theorem getD_set_ne {dep : List Int} {c d : Nat} {x : Int} (h : c ≠ d) : (dep.set c x).getD d 0 = dep.getD d 0 := by
  rw [List.getD_eq_getElem?_getD, List.getElem?_set_ne h, ← List.getD_eq_getElem?_getD]
theorem inv_step {l : List Nd} {i j : Nat} {dep : List Int} (h : Inv l i j dep) (hi : i < l.length) (hj : j < (kid l i).length) (h1 : (i : Int) + 1 ≤ k_ l i j) (h2 : k_ l i j ≤ l.length - 1) (h3 : rd dep (k_ l i j) ≤ 0) (hb : ∀ b, b < j → b < cnt dep) (hjc : j ≤ cnt dep) :
    Inv l i (j + 1) (dep.set (k_ l i j).toNat (rd dep i + 1)) := by
  have hbi := h.p4 i
  simp only [rd] at h3
  have hcn : (k_ l i j).toNat < dep.length := by rw [h.len]; omega
  have hsub : ∀ a b, Dn i (j + 1) a b → Dn i j a b ∨ (a = i ∧ b = j) := by
    intro a b hd
    unfold Dn at *
    omega
  have hold : ∀ a b, Dn i j a b → b < (kid l a).length → (k_ l a b).toNat ≠ (k_ l i j).toNat ∧ a ≠ (k_ l i j).toNat := by
    intro a b hd hl
    obtain ⟨q1, q2, q3⟩ := h.p1 a b hd hl
    refine ⟨fun e => ?_, ?_⟩
    · have ha := h.p4 a
      simp only [rd] at q3
      rw [e] at q3
      simp only [Int.toNat_natCast] at q3
      omega
    · unfold Dn at hd; omega
  have hc : cnt (dep.set (k_ l i j).toNat (rd dep i + 1)) = cnt dep + 1 := cnt_set hcn h3 (by simp only [rd, Int.toNat_natCast]; omega)
  refine ⟨by simpa using h.len, ?_, ?_, ?_, ?_, ?_⟩
  · intro a b hd hl
    rcases hsub a b hd with hd | ⟨rfl, rfl⟩
    · obtain ⟨q1, q2, q3⟩ := h.p1 a b hd hl
      obtain ⟨e1, e2⟩ := hold a b hd hl
      refine ⟨q1, q2, ?_⟩
      simp only [rd, Int.toNat_natCast] at q3 ⊢
      rw [getD_set_ne (Ne.symm e1), getD_set_ne (Ne.symm e2)]
      exact q3
    · refine ⟨by omega, by omega, ?_⟩
      simp only [rd, Int.toNat_natCast]
      rw [getD_set_eq hcn, getD_set_ne (by omega)]
  · intro c hc0
    by_cases e : (k_ l i j).toNat = c
    · exact ⟨i, j, .inr ⟨rfl, by omega⟩, hj, by omega⟩
    · rw [getD_set_ne e] at hc0
      obtain ⟨a, b, hd, hl, hk⟩ := h.p2 c hc0
      exact ⟨a, b, by unfold Dn at *; omega, hl, hk⟩
  · intro a b a' b' hd hl hd' hl' he
    rcases hsub a b hd with hd | ⟨rfl, rfl⟩ <;> rcases hsub a' b' hd' with hd' | ⟨rfl, rfl⟩
    · exact h.p3 a b a' b' hd hl hd' hl' he
    · exact absurd (by rw [he]) (hold a b hd hl).1
    · exact absurd (by rw [he]) (hold a' b' hd' hl').1
    · exact ⟨rfl, rfl⟩
  · intro c
    by_cases e : (k_ l i j).toNat = c
    · rw [← e, getD_set_eq hcn]
      simp only [rd, Int.toNat_natCast]
      omega
    · rw [getD_set_ne e]; exact h.p4 c
  · intro a b hd hl
    rw [hc]
    rcases hsub a b hd with hd | ⟨rfl, rfl⟩
    · have := h.p5 a b hd hl; omega
    · omega
theorem kids_inv {l : List Nd} {i : Nat} (hi : i < l.length) (d : Nat) : ∀ (j : Nat) (dep dep' : List Int), (kid l i).length - j = d → j ≤ (kid l i).length → Inv l i j dep → j ≤ cnt dep → kidsStep l.length i ((kid l i).drop j) dep = some dep' → Inv l i (kid l i).length dep' := by
  induction d with
  | zero =>
    intro j dep dep' hd hj h hjc hs
    have : j = (kid l i).length := by omega
    subst this
    rw [List.drop_length] at hs
    simp only [kidsStep, Option.some.injEq] at hs
    subst hs
    exact h
  | succ d ih =>
    intro j dep dep' hd hj h hjc hs
    have hlt : j < (kid l i).length := by omega
    rw [kids_at _ _ _ _ _ hlt] at hs
    split at hs
    · rename_i hc
      have hbi := h.p4 i
      have h3 := hc.2.2
      simp only [rd] at h3
      have hcc : cnt (dep.set (k_ l i j).toNat (rd dep i + 1)) = cnt dep + 1 := cnt_set (by rw [h.len]; have := hc.1; have := hc.2.1; simp only [k_]; omega) h3 (by simp only [rd, Int.toNat_natCast]; omega)
      exact ih (j + 1) _ dep' (by omega) (by omega) (inv_step h hi hlt hc.1 hc.2.1 hc.2.2 (fun b hb => by omega) hjc) (by rw [hcc]; omega) hs
    · cases hs
/-- What is behind node i: everything before it is done. -/
structure NInv (l : List Nd) (i : Nat) (dep : List Int) : Prop where
  inv : Inv l i 0 dep
  pos : ∀ c : Nat, 1 ≤ c → c < i → 0 < dep.getD c 0
  wor : ∀ a : Nat, a < i → -100 ≤ wor l a ∧ wor l a ≤ 100 ∧ (0 < (kid l a).length → Go.Proofs.Ytdiljpnfochndaa.HP.wor l a = 0)
theorem kids_keep {l : List Nd} {i : Nat} (d : Nat) : ∀ (j : Nat) (dep dep' : List Int), (kid l i).length - j = d → dep.length = l.length → kidsStep l.length i ((kid l i).drop j) dep = some dep' → ∀ c : Nat, c ≤ i → dep'.getD c 0 = dep.getD c 0 := by
  induction d with
  | zero =>
    intro j dep dep' hd hl hs c hc
    rw [List.drop_eq_nil_of_le (by omega)] at hs
    simp only [kidsStep, Option.some.injEq] at hs
    rw [hs]
  | succ d ih =>
    intro j dep dep' hd hl hs c hc
    rw [kids_at _ _ _ _ _ (by omega)] at hs
    split at hs
    · rename_i hh
      rw [ih (j + 1) _ dep' (by omega) (by simpa using hl) hs c hc, getD_set_ne (by omega)]
    · cases hs
theorem nodes_inv {l : List Nd} (d : Nat) : ∀ (i : Nat) (dep dep' : List Int), l.length - i = d → i ≤ l.length → NInv l i dep → nodesStep l.length i (l.drop i) dep = some dep' → NInv l l.length dep' := by
  induction d with
  | zero =>
    intro i dep dep' hd hi h hs
    have : i = l.length := by omega
    subst this
    rw [List.drop_length] at hs
    simp only [nodesStep, Option.some.injEq] at hs
    subst hs
    exact h
  | succ d ih =>
    intro i dep dep' hd hi h hs
    have hlt : i < l.length := by omega
    rw [nodes_at _ _ _ _ hlt] at hs
    split at hs
    · cases hs
    · rename_i hc
      rw [Option.bind_eq_some_iff] at hs
      obtain ⟨dep1, h1, h2⟩ := hs
      have hk := kids_inv hlt _ 0 dep dep1 rfl (Nat.zero_le _) h.inv (Nat.zero_le _) (by simpa using h1)
      have hkeep := kids_keep _ 0 dep dep1 rfl h.inv.len (by simpa using h1)
      refine ih (i + 1) dep1 dep' (by omega) (by omega) ⟨⟨hk.len, ?_, ?_, ?_, hk.p4, ?_⟩, ?_, ?_⟩ h2
      · intro a b hd hl; exact hk.p1 a b (by unfold Dn at *; by_cases e : a = i; subst e; exact .inr ⟨rfl, hl⟩; omega) hl
      · intro c hc; obtain ⟨a, b, h1, h2, h3⟩ := hk.p2 c hc; exact ⟨a, b, by unfold Dn at *; omega, h2, h3⟩
      · intro a b a' b' hd hl hd' hl' he
        exact hk.p3 a b a' b' (by unfold Dn at *; by_cases e : a = i; subst e; exact .inr ⟨rfl, hl⟩; omega) hl (by unfold Dn at *; by_cases e : a' = i; subst e; exact .inr ⟨rfl, hl'⟩; omega) hl' he
      · intro a b hd hl; exact hk.p5 a b (by unfold Dn at *; by_cases e : a = i; subst e; exact .inr ⟨rfl, hl⟩; omega) hl
      · intro c hc1 hc2
        rw [hkeep c (by omega)]
        by_cases e : c = i
        · subst e
          have := h.inv.p4 c
          simp only [rd, Int.toNat_natCast] at hc
          omega
        · exact h.pos c hc1 (by omega)
      · intro a ha
        by_cases e : a = i
        · subst e
          by_cases h1 : -100 ≤ Go.Proofs.Ytdiljpnfochndaa.HP.wor l a ∧ Go.Proofs.Ytdiljpnfochndaa.HP.wor l a ≤ 100
          · refine ⟨h1.1, h1.2, fun hp => ?_⟩
            by_cases h2 : Go.Proofs.Ytdiljpnfochndaa.HP.wor l a = 0
            · exact h2
            · exact absurd (.inr (.inr ⟨hp, h2⟩)) hc
          · exact absurd (.inr (.inl h1)) hc
        · exact h.wor a (by omega)
/-- What is known of a tree. -/
structure TF (l : List Nd) (dep : List Int) : Prop where
  n1 : 1 ≤ l.length
  n60 : l.length ≤ 60
  len : dep.length = l.length
  kin : ∀ a b : Nat, a < l.length → b < (kid l a).length → (a : Int) < k_ l a b ∧ k_ l a b < l.length
  kdep : ∀ a b : Nat, a < l.length → b < (kid l a).length → rd dep (k_ l a b) = rd dep a + 1
  inj : ∀ a b a' b' : Nat, a < l.length → b < (kid l a).length → a' < l.length → b' < (kid l a').length → k_ l a b = k_ l a' b' → a = a' ∧ b = b'
  cov : ∀ c : Nat, 1 ≤ c → c < l.length → ∃ a b : Nat, a < l.length ∧ b < (kid l a).length ∧ k_ l a b = c
  dbd : ∀ c : Nat, 0 ≤ dep.getD c 0 ∧ dep.getD c 0 ≤ c
  klen : ∀ a : Nat, a < l.length → (kid l a).length ≤ 60
  wor : ∀ a : Nat, a < l.length → -100 ≤ wor l a ∧ Go.Proofs.Ytdiljpnfochndaa.HP.wor l a ≤ 100 ∧ (0 < (kid l a).length → Go.Proofs.Ytdiljpnfochndaa.HP.wor l a = 0)
theorem gameOf_TF {l : List Nd} {dep : List Int} (h : gameOf l = some dep) : TF l dep := by
  unfold gameOf at h
  by_cases hn : 1 ≤ l.length ∧ l.length ≤ 60
  · rw [if_pos hn, Option.bind_eq_some_iff] at h
    obtain ⟨dep1, h1, h2⟩ := h
    by_cases hc : 1 + cnt dep1 = l.length
    · rw [if_pos hc] at h2
      simp only [Option.some.injEq] at h2
      subst h2
      have hz : ∀ c : Nat, (List.replicate l.length (0 : Int)).getD c 0 = 0 := by
        intro c; rw [List.getD_eq_getElem?_getD, List.getElem?_replicate]; split <;> rfl
      have hi := nodes_inv _ 0 _ dep1 rfl (Nat.zero_le _) (⟨⟨by simp, fun a b hd => by unfold Dn at hd; omega, fun c hc => by rw [hz] at hc; omega, fun a b a' b' hd => by unfold Dn at hd; omega, fun c => by rw [hz]; omega, fun a b hd => by unfold Dn at hd; omega⟩, fun c h1 h2 => by omega, fun a ha => by omega⟩ : NInv l 0 (List.replicate l.length 0)) (by simpa using h1)
      have hcl := cnt_le dep1
      have hdl := hi.inv.len
      refine ⟨hn.1, hn.2, hdl, fun a b ha hb => ?_, fun a b ha hb => ?_, fun a b a' b' ha hb ha' hb' he => hi.inv.p3 a b a' b' (.inl ha) hb (.inl ha') hb' he, fun c h1 h2 => ?_, hi.inv.p4, fun a ha => ?_, hi.wor⟩
      · have := hi.inv.p1 a b (.inl ha) hb; exact ⟨this.1, this.2.1⟩
      · exact (hi.inv.p1 a b (.inl ha) hb).2.2
      · obtain ⟨a, b, hd, hl, hk⟩ := hi.inv.p2 c (hi.pos c h1 h2)
        exact ⟨a, b, by unfold Dn at hd; omega, hl, hk⟩
      · by_cases e : (kid l a).length ≤ 60
        · exact e
        · have := hi.inv.p5 a ((kid l a).length - 1) (.inl ha) (by omega); omega
    · rw [if_neg hc] at h2; cases h2
  · rw [if_neg hn] at h; cases h
end Go.Proofs.Ytdiljpnfochndaa.HP
