/- A part of the walk: what this seat's statements share. -/
import Derived.Test.YtdiljpnfochndaaZHP6
set_option linter.unusedVariables false
set_option linter.unusedSimpArgs false
/- The trees that the statements make. -/
namespace Go.Proofs.Ytdiljpnfochndaa.HP
def modM (x n : Int) : Int := (x % 18446744073709551616) % n
theorem modM_bd (x : Int) {n : Int} (h : 0 < n) : 0 ≤ modM x n ∧ modM x n < n := ⟨Int.emod_nonneg _ (by omega), Int.emod_lt_of_pos _ h⟩
def addKid (c : List (List Int)) (p : Nat) : List (List Int) := (c ++ [[]]).set p (c.getD p [] ++ [(c.length : Int)])
def chM (ps : List Int) : Nat → List (List Int)
  | 0 => [[]]
  | i + 1 => addKid (chM ps i) (modM (ps.getD i 0) (i + 1)).toNat
theorem chM_len (ps : List Int) : ∀ i, (chM ps i).length = i + 1
  | 0 => rfl
  | i + 1 => by simp [chM, addKid, chM_len ps i]
def kk (c : List (List Int)) (a b : Nat) : Int := (c.getD a []).getD b 0
structure CI (c : List (List Int)) : Prop where
  kin : ∀ a b : Nat, a < c.length → b < (c.getD a []).length → (a : Int) < kk c a b ∧ kk c a b < c.length
  inj : ∀ a b a' b' : Nat, a < c.length → b < (c.getD a []).length → a' < c.length → b' < (c.getD a' []).length → kk c a b = kk c a' b' → a = a' ∧ b = b'
  cov : ∀ x : Nat, 1 ≤ x → x < c.length → ∃ a b : Nat, a < c.length ∧ b < (c.getD a []).length ∧ kk c a b = x
theorem addKid_len (c : List (List Int)) (p : Nat) : (addKid c p).length = c.length + 1 := by simp [addKid]
theorem addKid_p {c : List (List Int)} {p : Nat} (hp : p < c.length) : (addKid c p).getD p [] = c.getD p [] ++ [(c.length : Int)] := by
  rw [addKid, List.getD_eq_getElem?_getD, List.getElem?_set_self (by simp; omega)]
  rfl
theorem addKid_ne {c : List (List Int)} {p a : Nat} (h : a ≠ p) (ha : a < c.length) : (addKid c p).getD a [] = c.getD a [] := by
  rw [addKid, List.getD_eq_getElem?_getD, List.getElem?_set_ne (Ne.symm h), List.getElem?_append_left ha, ← List.getD_eq_getElem?_getD]
theorem addKid_new {c : List (List Int)} {p : Nat} (hp : p < c.length) : (addKid c p).getD c.length [] = [] := by
  rw [addKid, List.getD_eq_getElem?_getD, List.getElem?_set_ne (by omega), List.getElem?_append_right (Nat.le_refl _)]
  simp
theorem snoc_getD {xs : List Int} {z : Int} {b : Nat} (h : b < (xs ++ [z]).length) : (xs ++ [z]).getD b 0 = if b < xs.length then xs.getD b 0 else z := by
  split
  · rename_i hb
    rw [List.getD_eq_getElem?_getD, List.getElem?_append_left hb, ← List.getD_eq_getElem?_getD]
  · rename_i hb
    have : b = xs.length := by simp at h; omega
    subst this
    simp [List.getD_eq_getElem?_getD]
/-- Where a child stands. -/
theorem addKid_at {c : List (List Int)} {p a b : Nat} (hp : p < c.length) (ha : a < (addKid c p).length) (hb : b < ((addKid c p).getD a []).length) :
    (a < c.length ∧ b < (c.getD a []).length ∧ kk (addKid c p) a b = kk c a b) ∨ (a = p ∧ b = (c.getD p []).length ∧ kk (addKid c p) a b = c.length) := by
  rw [addKid_len] at ha
  by_cases e : a = p
  · subst e
    unfold kk
    rw [addKid_p hp] at hb ⊢
    have := snoc_getD hb
    split at this
    · rename_i hl; exact .inl ⟨hp, hl, this⟩
    · rename_i hl; exact .inr ⟨rfl, by rw [List.length_append, List.length_singleton] at hb; omega, this⟩
  · by_cases e2 : a = c.length
    · subst e2
      rw [addKid_new hp] at hb
      simp at hb
    · have ha' : a < c.length := by omega
      unfold kk
      rw [addKid_ne e ha'] at hb ⊢
      exact .inl ⟨ha', hb, rfl⟩
theorem CI.add {c : List (List Int)} (h : CI c) {p : Nat} (hp : p < c.length) : CI (addKid c p) := by
  refine ⟨fun a b ha hb => ?_, fun a b a' b' ha hb ha' hb' he => ?_, fun x h1 h2 => ?_⟩
  · rw [addKid_len]
    rcases addKid_at hp ha hb with ⟨h1, h2, h3⟩ | ⟨h1, h2, h3⟩
    · have := h.kin a b h1 h2
      rw [h3]
      omega
    · rw [h3]; omega
  · rcases addKid_at hp ha hb with ⟨h1, h2, h3⟩ | ⟨h1, h2, h3⟩ <;> rcases addKid_at hp ha' hb' with ⟨q1, q2, q3⟩ | ⟨q1, q2, q3⟩
    · rw [h3, q3] at he; exact h.inj a b a' b' h1 h2 q1 q2 he
    · rw [h3, q3] at he; have := h.kin a b h1 h2; omega
    · rw [h3, q3] at he; have := h.kin a' b' q1 q2; omega
    · exact ⟨by omega, by omega⟩
  · rw [addKid_len] at h2
    by_cases e : x = c.length
    · subst e
      refine ⟨p, (c.getD p []).length, by rw [addKid_len]; omega, by rw [addKid_p hp]; simp, ?_⟩
      unfold kk
      rw [addKid_p hp]
      simp [List.getD_eq_getElem?_getD]
    · obtain ⟨a, b, ha, hb, hk⟩ := h.cov x h1 (by omega)
      refine ⟨a, b, by rw [addKid_len]; omega, ?_, ?_⟩
      · by_cases e : a = p
        · subst e; rw [addKid_p hp, List.length_append, List.length_singleton]; omega
        · rw [addKid_ne e ha]; exact hb
      · unfold kk at hk ⊢
        by_cases e : a = p
        · subst e
          rw [addKid_p hp, snoc_getD (by rw [List.length_append, List.length_singleton]; omega), if_pos hb]
          exact hk
        · rw [addKid_ne e ha]; exact hk
theorem chM_CI (ps : List Int) : ∀ i, CI (chM ps i)
  | 0 => ⟨fun a b ha hb => by
      have : a = 0 := by simp [chM] at ha; omega
      subst this
      simp [chM] at hb, fun a b a' b' ha hb => by
      have : a = 0 := by simp [chM] at ha; omega
      subst this
      simp [chM] at hb, fun x h1 h2 => by simp [chM] at h2; omega⟩
  | i + 1 => (chM_CI ps i).add (by
      have := modM_bd (ps.getD i 0) (n := (i : Int) + 1) (by omega)
      rw [chM_len]
      omega)
def rounds (ps : List Int) (most : Nat) : Nat := min (most - 1) ps.length
def tameN (ps ws : List Int) (c : List (List Int)) (i : Nat) : Nd := (c.getD i [], if (c.getD i []).length = 0 ∧ i < ws.length then modM (ws.getD i 0) 201 - 100 else 0)
def tameM (ps ws : List Int) (most : Nat) : List Nd := (List.range (rounds ps most + 1)).map (tameN ps ws (chM ps (rounds ps most)))
theorem tameM_len (ps ws : List Int) (most : Nat) : (tameM ps ws most).length = rounds ps most + 1 := by simp [tameM]
theorem tameM_at {ps ws : List Int} {most i : Nat} (h : i < rounds ps most + 1) : (tameM ps ws most).getD i ([], 0) = tameN ps ws (chM ps (rounds ps most)) i := by
  simp [tameM, List.getD_eq_getElem?_getD, h]
theorem tame_kid {ps ws : List Int} {most i : Nat} (h : i < rounds ps most + 1) : kid (tameM ps ws most) i = (chM ps (rounds ps most)).getD i [] := by
  unfold kid
  rw [Int.toNat_natCast, tameM_at h]
  rfl
theorem tame_TK {ps ws : List Int} {most : Nat} (h0 : 1 ≤ most) (hm : most ≤ 60) : TK (tameM ps ws most) := by
  have hci := chM_CI ps (rounds ps most)
  have hl := chM_len ps (rounds ps most)
  have hr : rounds ps most + 1 ≤ 60 := by unfold rounds; omega
  refine ⟨by rw [tameM_len]; omega, by rw [tameM_len]; omega, fun a b ha hb => ?_, fun a b a' b' ha hb ha' hb' he => ?_, fun c h1 h2 => ?_, fun a ha => ?_⟩
  · rw [tameM_len] at ha ⊢
    rw [tame_kid ha] at hb
    have := hci.kin a b (by omega) hb
    unfold k_
    rw [tame_kid ha]
    unfold kk at this
    rw [hl] at this
    exact this
  · rw [tameM_len] at ha ha'
    rw [tame_kid ha] at hb
    rw [tame_kid ha'] at hb'
    unfold k_ at he
    rw [tame_kid ha, tame_kid ha'] at he
    exact hci.inj a b a' b' (by omega) hb (by omega) hb' he
  · rw [tameM_len] at h2
    obtain ⟨a, b, ha, hb, he⟩ := hci.cov c h1 (by omega)
    have ha' : a < rounds ps most + 1 := by omega
    refine ⟨a, b, by rw [tameM_len]; omega, by rw [tame_kid ha']; exact hb, ?_⟩
    unfold k_
    rw [tame_kid ha']
    exact he
  · rw [tameM_len] at ha
    rw [tame_kid ha]
    have hw : wor (tameM ps ws most) a = (tameN ps ws (chM ps (rounds ps most)) a).2 := by unfold wor; rw [Int.toNat_natCast, tameM_at ha]
    rw [hw]
    simp only [tameN]
    have := modM_bd (ws.getD a 0) (n := 201) (by omega)
    split
    · exact ⟨by omega, by omega, fun h => by omega⟩
    · exact ⟨by omega, by omega, fun _ => rfl⟩
end Go.Proofs.Ytdiljpnfochndaa.HP
