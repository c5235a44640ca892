/- A part of the walk: what this seat's statements share. -/
import Derived.Test.YtdiljpnfochndaaZG5
import Derived.Test.YtdiljpnfochndaaZG2
import Derived.Test.YtdiljpnfochndaaZG3
set_option linter.unusedVariables false
set_option linter.unusedSimpArgs false
set_option linter.unusedSectionVars false
/- The trees that the statements make. -/
namespace Go.Proofs.Ytdiljpnfochndaa.HP
def modM (x n : Int) : Int := (x % 18446744073709551616) % n
theorem modM_bd (x : Int) {n : Int} (h : 0 < n) : 0 ≤ modM x n ∧ modM x n < n := ⟨Int.emod_nonneg _ (by omega), Int.emod_lt_of_pos _ h⟩
def addKid (c : List (List Int)) (p : Nat) : List (List Int) := (c ++ [[]]).set p (c.getD p [] ++ [(c.length : Int)])
def chM (ps : List Int) : Nat → List (List Int)
  | 0 => [[]]
  | i + 1 => addKid (chM ps i) (modM (ps.getD i 0) (i + 1)).toNat
theorem chM_len (ps : List Int) : ∀ i, (chM ps i).length = i + 1
  | 0 => rfl
  | i + 1 => by simp [chM, addKid, chM_len ps i]
def kk (c : List (List Int)) (a b : Nat) : Int := (c.getD a []).getD b 0
structure CI (c : List (List Int)) : Prop where
  kin : ∀ a b : Nat, a < c.length → b < (c.getD a []).length → (a : Int) < kk c a b ∧ kk c a b < c.length
  inj : ∀ a b a' b' : Nat, a < c.length → b < (c.getD a []).length → a' < c.length → b' < (c.getD a' []).length → kk c a b = kk c a' b' → a = a' ∧ b = b'
  cov : ∀ x : Nat, 1 ≤ x → x < c.length → ∃ a b : Nat, a < c.length ∧ b < (c.getD a []).length ∧ kk c a b = x
theorem addKid_len (c : List (List Int)) (p : Nat) : (addKid c p).length = c.length + 1 := by simp [addKid]
theorem addKid_p {c : List (List Int)} {p : Nat} (hp : p < c.length) : (addKid c p).getD p [] = c.getD p [] ++ [(c.length : Int)] := by
  rw [addKid, List.getD_eq_getElem?_getD, List.getElem?_set_self (by simp; omega)]
  rfl
theorem addKid_ne {c : List (List Int)} {p a : Nat} (h : a ≠ p) (ha : a < c.length) : (addKid c p).getD a [] = c.getD a [] := by
  rw [addKid, List.getD_eq_getElem?_getD, List.getElem?_set_ne (Ne.symm h), List.getElem?_append_left ha, ← List.getD_eq_getElem?_getD]
theorem addKid_new {c : List (List Int)} {p : Nat} (hp : p < c.length) : (addKid c p).getD c.length [] = [] := by
  rw [addKid, List.getD_eq_getElem?_getD, List.getElem?_set_ne (by omega), List.getElem?_append_right (Nat.le_refl _)]
  simp
theorem snoc_getD {xs : List Int} {z : Int} {b : Nat} (h : b < (xs ++ [z]).length) : (xs ++ [z]).getD b 0 = if b < xs.length then xs.getD b 0 else z := by
  split
  · rename_i hb
    rw [List.getD_eq_getElem?_getD, List.getElem?_append_left hb, ← List.getD_eq_getElem?_getD]
  · rename_i hb
    have : b = xs.length := by simp at h; omega
    subst this
    simp [List.getD_eq_getElem?_getD]
/-- Where a child stands. -/
theorem addKid_at {c : List (List Int)} {p a b : Nat} (hp : p < c.length) (ha : a < (addKid c p).length) (hb : b < ((addKid c p).getD a []).length) :
    (a < c.length ∧ b < (c.getD a []).length ∧ kk (addKid c p) a b = kk c a b) ∨ (a = p ∧ b = (c.getD p []).length ∧ kk (addKid c p) a b = c.length) := by
  rw [addKid_len] at ha
  by_cases e : a = p
  · subst e
    unfold kk
    rw [addKid_p hp] at hb ⊢
    have := snoc_getD hb
    split at this
    · rename_i hl; exact .inl ⟨hp, hl, this⟩
    · rename_i hl; exact .inr ⟨rfl, by rw [List.length_append, List.length_singleton] at hb; omega, this⟩
  · by_cases e2 : a = c.length
    · subst e2
      rw [addKid_new hp] at hb
      simp at hb
    · have ha' : a < c.length := by omega
      unfold kk
      rw [addKid_ne e ha'] at hb ⊢
      exact .inl ⟨ha', hb, rfl⟩
theorem CI.add {c : List (List Int)} (h : CI c) {p : Nat} (hp : p < c.length) : CI (addKid c p) := by
  refine ⟨fun a b ha hb => ?_, fun a b a' b' ha hb ha' hb' he => ?_, fun x h1 h2 => ?_⟩
  · rw [addKid_len]
    rcases addKid_at hp ha hb with ⟨h1, h2, h3⟩ | ⟨h1, h2, h3⟩
    · have := h.kin a b h1 h2
      rw [h3]
      omega
    · rw [h3]; omega
  · rcases addKid_at hp ha hb with ⟨h1, h2, h3⟩ | ⟨h1, h2, h3⟩ <;> rcases addKid_at hp ha' hb' with ⟨q1, q2, q3⟩ | ⟨q1, q2, q3⟩
    · rw [h3, q3] at he; exact h.inj a b a' b' h1 h2 q1 q2 he
    · rw [h3, q3] at he; have := h.kin a b h1 h2; omega
    · rw [h3, q3] at he; have := h.kin a' b' q1 q2; omega
    · exact ⟨by omega, by omega⟩
  · rw [addKid_len] at h2
    by_cases e : x = c.length
    · subst e
      refine ⟨p, (c.getD p []).length, by rw [addKid_len]; omega, by rw [addKid_p hp]; simp, ?_⟩
      unfold kk
      rw [addKid_p hp]
      simp [List.getD_eq_getElem?_getD]
    · obtain ⟨a, b, ha, hb, hk⟩ := h.cov x h1 (by omega)
      refine ⟨a, b, by rw [addKid_len]; omega, ?_, ?_⟩
      · by_cases e : a = p
        · subst e; rw [addKid_p hp, List.length_append, List.length_singleton]; omega
        · rw [addKid_ne e ha]; exact hb
      · unfold kk at hk ⊢
        by_cases e : a = p
        · subst e
          rw [addKid_p hp, snoc_getD (by rw [List.length_append, List.length_singleton]; omega), if_pos hb]
          exact hk
        · rw [addKid_ne e ha]; exact hk
theorem chM_CI (ps : List Int) : ∀ i, CI (chM ps i)
  | 0 => ⟨fun a b ha hb => by
      have : a = 0 := by simp [chM] at ha; omega
      subst this
      simp [chM] at hb, fun a b a' b' ha hb => by
      have : a = 0 := by simp [chM] at ha; omega
      subst this
      simp [chM] at hb, fun x h1 h2 => by simp [chM] at h2; omega⟩
  | i + 1 => (chM_CI ps i).add (by
      have := modM_bd (ps.getD i 0) (n := (i : Int) + 1) (by omega)
      rw [chM_len]
      omega)
def rounds (ps : List Int) (most : Nat) : Nat := min (most - 1) ps.length
def tameN (ps ws : List Int) (c : List (List Int)) (i : Nat) : Nd := (c.getD i [], if (c.getD i []).length = 0 ∧ i < ws.length then modM (ws.getD i 0) 201 - 100 else 0)
def tameM (ps ws : List Int) (most : Nat) : List Nd := (List.range (rounds ps most + 1)).map (tameN ps ws (chM ps (rounds ps most)))
theorem tameM_len (ps ws : List Int) (most : Nat) : (tameM ps ws most).length = rounds ps most + 1 := by simp [tameM]
theorem tameM_at {ps ws : List Int} {most i : Nat} (h : i < rounds ps most + 1) : (tameM ps ws most).getD i ([], 0) = tameN ps ws (chM ps (rounds ps most)) i := by
  simp [tameM, List.getD_eq_getElem?_getD, h]
theorem tame_kid {ps ws : List Int} {most i : Nat} (h : i < rounds ps most + 1) : kid (tameM ps ws most) i = (chM ps (rounds ps most)).getD i [] := by
  unfold kid
  rw [Int.toNat_natCast, tameM_at h]
  rfl
theorem tame_TK {ps ws : List Int} {most : Nat} (h0 : 1 ≤ most) (hm : most ≤ 60) : TK (tameM ps ws most) := by
  have hci := chM_CI ps (rounds ps most)
  have hl := chM_len ps (rounds ps most)
  have hr : rounds ps most + 1 ≤ 60 := by unfold rounds; omega
  refine ⟨by rw [tameM_len]; omega, by rw [tameM_len]; omega, fun a b ha hb => ?_, fun a b a' b' ha hb ha' hb' he => ?_, fun c h1 h2 => ?_, fun a ha => ?_⟩
  · rw [tameM_len] at ha ⊢
    rw [tame_kid ha] at hb
    have := hci.kin a b (by omega) hb
    unfold k_
    rw [tame_kid ha]
    unfold kk at this
    rw [hl] at this
    exact this
  · rw [tameM_len] at ha ha'
    rw [tame_kid ha] at hb
    rw [tame_kid ha'] at hb'
    unfold k_ at he
    rw [tame_kid ha, tame_kid ha'] at he
    exact hci.inj a b a' b' (by omega) hb (by omega) hb' he
  · rw [tameM_len] at h2
    obtain ⟨a, b, ha, hb, he⟩ := hci.cov c h1 (by omega)
    have ha' : a < rounds ps most + 1 := by omega
    refine ⟨a, b, by rw [tameM_len]; omega, by rw [tame_kid ha']; exact hb, ?_⟩
    unfold k_
    rw [tame_kid ha']
    exact he
  · rw [tameM_len] at ha
    rw [tame_kid ha]
    have hw : wor (tameM ps ws most) a = (tameN ps ws (chM ps (rounds ps most)) a).2 := by unfold wor; rw [Int.toNat_natCast, tameM_at ha]
    rw [hw]
    simp only [tameN]
    have := modM_bd (ws.getD a 0) (n := 201) (by omega)
    split
    · exact ⟨by omega, by omega, fun h => by omega⟩
    · exact ⟨by omega, by omega, fun _ => rfl⟩
end Go.Proofs.Ytdiljpnfochndaa.HP
/- Values: more for the leaves is not less for the root. -/
namespace Go.Proofs.Ytdiljpnfochndaa.HP
theorem foldl_mono {f : Int → Int → Int} (hf : ∀ a b c d, a ≤ b → c ≤ d → f a c ≤ f b d) : ∀ (cs : List Int) (g h : Int → Int) (a b : Int), a ≤ b → (∀ c ∈ cs, g c ≤ h c) → (cs.map g).foldl f a ≤ (cs.map h).foldl f b
  | [], _, _, _, _, hab, _ => hab
  | c :: r, g, h, a, b, hab, hc => foldl_mono hf r g h _ _ (hf _ _ _ _ hab (hc c (by simp))) fun x hx => hc x (by simp [hx])
theorem maxL_mono (cs : List Int) (g h : Int → Int) (hc : ∀ c ∈ cs, g c ≤ h c) : maxL (cs.map g) ≤ maxL (cs.map h) := by
  cases cs with
  | nil => simp [maxL]
  | cons c r => exact foldl_mono (fun a b c d h1 h2 => by omega) r g h _ _ (hc c (by simp)) fun x hx => hc x (by simp [hx])
theorem minL_mono (cs : List Int) (g h : Int → Int) (hc : ∀ c ∈ cs, g c ≤ h c) : minL (cs.map g) ≤ minL (cs.map h) := by
  cases cs with
  | nil => simp [minL]
  | cons c r => exact foldl_mono (fun a b c d h1 h2 => by omega) r g h _ _ (hc c (by simp)) fun x hx => hc x (by simp [hx])
theorem val_mono {l : List Nd} {dep : List Int} (hT : TF l dep) {f g : Int → Int} {vs us : List Int} (hv : ValP l dep f vs) (hu : ValP l dep g us) (h : ∀ i : Nat, i < l.length → leafB l i = true → f i ≤ g i) : ∀ j : Nat, j < l.length → vs.getD j 0 ≤ us.getD j 0 := by
  have key : ∀ d j : Nat, l.length - j = d → j < l.length → vs.getD j 0 ≤ us.getD j 0 := by
    intro d
    induction d using Nat.strongRecOn with
    | _ d ih =>
      intro j hd hj
      have hk : ∀ c ∈ kid l j, rd vs c ≤ rd us c := fun c hc => by
        obtain ⟨h1, h2⟩ := mem_kid hT hj hc
        exact ih (l.length - c.toNat) (by omega) c.toNat rfl (by omega)
      rw [hv.at_ j hj, hu.at_ j hj]
      unfold NV
      split
      · rename_i hl; exact h j hj hl
      · split
        · exact maxL_mono _ _ _ hk
        · exact minL_mono _ _ _ hk
  exact fun j hj => key _ j rfl hj
end Go.Proofs.Ytdiljpnfochndaa.HP
/- Efforts of two players with the same known leaves. -/
namespace Go.Proofs.Ytdiljpnfochndaa.HP
/-- What the efforts of one side are, at all nodes: in bounds; and small unless far. -/
theorem need_all {l : List Nd} {dep : List Int} {mx : Bool} {lf : Int → Int} {es : List Ef} (hT : TF l dep) (hN : NeedP l dep mx lf es) {Q : Nat → Prop}
    (h : ∀ j : Nat, j < l.length → (∀ c ∈ kid l j, ∃ i : Nat, c = i ∧ i < l.length ∧ Q i) → Q j) : ∀ j : Nat, j < l.length → Q j := by
  have key : ∀ d j : Nat, l.length - j = d → j < l.length → Q j := by
    intro d
    induction d using Nat.strongRecOn with
    | _ d ih =>
      intro j hd hj
      refine h j hj fun c hc => ?_
      obtain ⟨h1, h2⟩ := mem_kid hT hj hc
      exact ⟨c.toNat, by omega, by omega, ih (l.length - c.toNat) (by omega) c.toNat rfl (by omega)⟩
  exact fun j hj => key _ j rfl hj
theorem ed_nat (es : List Ef) (i : Nat) : ed es (i : Int) = es.getD i (0, []) := rfl
theorem pick_le {es : List Ef} : ∀ (cs : List Int) (a : Ef), (cs.foldl (pickF es) a).1 ≤ a.1 ∧ (∀ c ∈ cs, (cs.foldl (pickF es) a).1 ≤ (ed es c).1) ∧ (cs.foldl (pickF es) a = a ∨ ∃ c ∈ cs, cs.foldl (pickF es) a = ed es c)
  | [], a => ⟨Int.le_refl _, by simp, .inl rfl⟩
  | c :: r, a => by
    obtain ⟨h1, h2, h3⟩ := pick_le r (pickF es a c)
    have hp : (pickF es a c).1 ≤ a.1 ∧ (pickF es a c).1 ≤ (ed es c).1 ∧ (pickF es a c = a ∨ pickF es a c = ed es c) := by
      unfold pickF
      split
      · exact ⟨by omega, Int.le_refl _, .inr rfl⟩
      · exact ⟨Int.le_refl _, by omega, .inl rfl⟩
    refine ⟨Int.le_trans h1 hp.1, fun x hx => ?_, ?_⟩
    · rcases List.mem_cons.1 hx with rfl | hx
      · exact Int.le_trans h1 hp.2.1
      · exact h2 x hx
    · rcases h3 with h3 | ⟨x, hx, h3⟩
      · rcases hp.2.2 with e | e
        · exact .inl (by rw [List.foldl_cons, h3, e])
        · exact .inr ⟨c, by simp, by rw [List.foldl_cons, h3, e]⟩
      · exact .inr ⟨x, by simp [hx], by rw [List.foldl_cons, h3]⟩
/-- The sum, capped. -/
theorem join_sum {es : List Ef} : ∀ (cs : List Int) (a : Ef), 0 ≤ a.1 → a.1 ≤ far → (∀ c ∈ cs, 0 ≤ (ed es c).1 ∧ (ed es c).1 ≤ far) →
    a.1 ≤ (cs.foldl (joinF es) a).1 ∧ (∀ c ∈ cs, (ed es c).1 ≤ (cs.foldl (joinF es) a).1) ∧ ((cs.foldl (joinF es) a).1 = 0 ↔ a.1 = 0 ∧ ∀ c ∈ cs, (ed es c).1 = 0)
  | [], a, _, _, _ => ⟨Int.le_refl _, by simp, by simp⟩
  | c :: r, a, h0, h1, hc => by
    have hcb := hc c (by simp)
    have hj : (joinF es a c).1 = min far (a.1 + (ed es c).1) := rfl
    obtain ⟨q1, q2, q3⟩ := join_sum r (joinF es a c) (by rw [hj]; omega) (by rw [hj]; omega) fun x hx => hc x (by simp [hx])
    refine ⟨?_, fun x hx => ?_, ?_⟩
    · rw [List.foldl_cons]; rw [hj] at q1; omega
    · rw [List.foldl_cons]
      rcases List.mem_cons.1 hx with rfl | hx
      · rw [hj] at q1; omega
      · exact q2 x hx
    · rw [List.foldl_cons, q3, hj]
      constructor
      · rintro ⟨e1, e2⟩
        refine ⟨by simp only [far] at *; omega, fun x hx => ?_⟩
        rcases List.mem_cons.1 hx with rfl | hx
        · simp only [far] at *; omega
        · exact e2 x hx
      · rintro ⟨e1, e2⟩
        have := e2 c (by simp)
        exact ⟨by simp only [far]; omega, fun x hx => e2 x (by simp [hx])⟩
/-- Small efforts do not reach the cap. -/
theorem join_small {es : List Ef} : ∀ (cs : List Int) (a : Ef), 0 ≤ a.1 → a.1 ≤ a.2.length → (∀ c ∈ cs, 0 ≤ (ed es c).1 ∧ (ed es c).1 ≤ (ed es c).2.length) → (cs.foldl (joinF es) a).1 ≤ (cs.foldl (joinF es) a).2.length
  | [], a, _, h, _ => h
  | c :: r, a, h0, h, hc => by
    have hcb := hc c (by simp)
    refine join_small r (joinF es a c) (by simp only [joinF, far]; omega) ?_ fun x hx => hc x (by simp [hx])
    simp only [joinF, List.length_append]
    omega
structure Small (l : List Nd) (e : Ef) : Prop where
  lo : 0 ≤ e.1
  hi : e.1 ≤ far
  sm : e.1 < far → e.1 ≤ e.2.length
theorem need_small {l : List Nd} {dep : List Int} {mx : Bool} {lf : Int → Int} {es : List Ef} (hT : TF l dep) (hN : NeedP l dep mx lf es) (h : ∀ i : Nat, leafB l i = true → lf i = 0 ∨ lf i = 1 ∨ lf i = far) :
    ∀ j : Nat, j < l.length → GoodE l j (es.getD j (0, [])).2 ∧ Small l (es.getD j (0, [])) := by
  refine need_all hT hN (Q := fun j => GoodE l j (es.getD j (0, [])).2 ∧ Small l (es.getD j (0, []))) fun j hj hk => ?_
  have hk' : ∀ c ∈ kid l j, GoodE l c (ed es c).2 ∧ Small l (ed es c) := fun c hc => by obtain ⟨i, rfl, _, h⟩ := hk c hc; exact h
  rw [hN.at_ j hj]
  refine ⟨NE_good hT hj fun c hc => (hk' c hc).1, ?_⟩
  have hbd := NE_bd (mx := mx) (dep := dep) (lf := lf) (es := es) (j := j) (fun hl => by rcases h j hl with e | e | e <;> rw [e] <;> decide) fun c hc => ⟨(hk' c hc).2.lo, (hk' c hc).2.hi⟩
  refine ⟨hbd.1, hbd.2, ?_⟩
  unfold NE
  split
  · rename_i hl
    intro hlt
    rcases h j hl with e | e | e <;> simp only [e] at hlt ⊢ <;> simp at hlt ⊢
  · split
    · intro hlt
      obtain ⟨_, _, h3⟩ := pick_le (es := es) (kid l j) (far, [])
      rcases h3 with h3 | ⟨c, hc, h3⟩
      · rw [h3] at hlt; simp at hlt
      · rw [h3] at hlt ⊢; exact (hk' c hc).2.sm hlt
    · intro hlt
      obtain ⟨_, h2, _⟩ := join_sum (es := es) (kid l j) (0, []) (by decide) (by decide) fun c hc => ⟨(hk' c hc).2.lo, (hk' c hc).2.hi⟩
      exact join_small (kid l j) (0, []) (by decide) (by simp) fun c hc => ⟨(hk' c hc).2.lo, (hk' c hc).2.sm (Int.lt_of_le_of_lt (h2 c hc) hlt)⟩
theorem small60 {l : List Nd} {dep : List Int} (hT : TF l dep) {j : Int} {e : Ef} (hg : GoodE l j e.2) (hs : Small l e) (h : e.1 < far) : e.1 ≤ 60 := by
  have := hs.sm h
  have := hg.len
  have := hT.n60
  omega
theorem pickZ {es : List Ef} {cs : List Int} (h : ∀ c ∈ cs, 0 ≤ (ed es c).1) : (cs.foldl (pickF es) (far, [])).1 = 0 ↔ ∃ c ∈ cs, (ed es c).1 = 0 := by
  obtain ⟨h1, h2, h3⟩ := pick_le (es := es) cs (far, [])
  constructor
  · intro e
    rcases h3 with h3 | ⟨c, hc, h3⟩
    · rw [h3] at e; simp [far] at e
    · exact ⟨c, hc, by rw [← h3]; exact e⟩
  · rintro ⟨c, hc, e⟩
    have := h2 c hc
    rcases h3 with h3 | ⟨x, hx, h3⟩
    · rw [h3, e] at this; simp [far] at this
    · have q := h x hx; rw [← h3] at q; omega
theorem pickFar {es : List Ef} {cs : List Int} (h : ∀ c ∈ cs, (ed es c).1 ≤ far) : (cs.foldl (pickF es) (far, [])).1 = far ↔ ∀ c ∈ cs, (ed es c).1 = far := by
  obtain ⟨h1, h2, h3⟩ := pick_le (es := es) cs (far, [])
  constructor
  · intro e c hc
    have := h2 c hc
    have := h c hc
    omega
  · intro e
    rcases h3 with h3 | ⟨x, hx, h3⟩
    · rw [h3]
    · rw [h3]; exact e x hx
theorem joinFar {l : List Nd} {dep : List Int} (hT : TF l dep) {es : List Ef} {j : Nat} (hj : j < l.length) (h : ∀ c ∈ kid l j, GoodE l c (ed es c).2 ∧ Small l (ed es c)) : ((kid l j).foldl (joinF es) (0, [])).1 = far ↔ ∃ c ∈ kid l j, (ed es c).1 = far := by
  obtain ⟨h1, h2, h3⟩ := join_sum (es := es) (kid l j) (0, []) (by decide) (by decide) fun c hc => ⟨(h c hc).2.lo, (h c hc).2.hi⟩
  have hbd : ((kid l j).foldl (joinF es) (0, [])).1 ≤ far := by
    have : ∀ (cs : List Int) (a : Ef), a.1 ≤ far → (cs.foldl (joinF es) a).1 ≤ far := by
      intro cs
      induction cs with
      | nil => intro a ha; exact ha
      | cons c r ih => intro a ha; exact ih _ (by simp only [joinF]; omega)
    exact this _ _ (by decide)
  constructor
  · intro e
    by_cases hx : ∃ c ∈ kid l j, (ed es c).1 = far
    · exact hx
    · exfalso
      have hs := join_small (es := es) (kid l j) (0, []) (by decide) (by simp) fun c hc => ⟨(h c hc).2.lo, (h c hc).2.sm (by
        have := (h c hc).2.hi
        have : (ed es c).1 ≠ far := fun e => hx ⟨c, hc, e⟩
        omega)⟩
      have hg := (good_join hT hj (fun c hc => (h c hc).1) (kid l j).length (Nat.le_refl _)).1.len
      rw [List.take_length] at hg
      have := hT.n60
      rw [e] at hs
      simp only [far] at hs
      omega
  · rintro ⟨c, hc, e⟩
    have := h2 c hc
    omega
theorem joinZ {es : List Ef} {cs : List Int} (h : ∀ c ∈ cs, 0 ≤ (ed es c).1 ∧ (ed es c).1 ≤ far) : (cs.foldl (joinF es) (0, [])).1 = 0 ↔ ∀ c ∈ cs, (ed es c).1 = 0 := by
  obtain ⟨_, _, h3⟩ := join_sum (es := es) cs (0, []) (by decide) (by decide) h
  rw [h3]
  simp
theorem dual {l : List Nd} {dep : List Int} {tf ff : Int → Int} {es fs : List Ef} (hT : TF l dep) (hE : NeedP l dep true tf es) (hF : NeedP l dep false ff fs) (ht : ∀ i : Nat, leafB l i = true → tf i = 0 ∨ tf i = 1 ∨ tf i = far) (hf : ∀ i : Nat, leafB l i = true → ff i = 0 ∨ ff i = 1 ∨ ff i = far)
    (h : ∀ i : Nat, i < l.length → leafB l i = true → (tf i = 0 ↔ ff i = far) ∧ (ff i = 0 ↔ tf i = far)) : ∀ j : Nat, j < l.length → ((es.getD j (0, [])).1 = 0 ↔ (fs.getD j (0, [])).1 = far) ∧ ((fs.getD j (0, [])).1 = 0 ↔ (es.getD j (0, [])).1 = far) := by
  have sE := need_small hT hE ht
  have sF := need_small hT hF hf
  refine need_all hT hE (Q := fun j => ((es.getD j (0, [])).1 = 0 ↔ (fs.getD j (0, [])).1 = far) ∧ ((fs.getD j (0, [])).1 = 0 ↔ (es.getD j (0, [])).1 = far)) fun j hj hk => ?_
  have kE : ∀ c ∈ kid l j, GoodE l c (ed es c).2 ∧ Small l (ed es c) := fun c hc => by obtain ⟨i, rfl, hi, _⟩ := hk c hc; exact sE i hi
  have kF : ∀ c ∈ kid l j, GoodE l c (ed fs c).2 ∧ Small l (ed fs c) := fun c hc => by obtain ⟨i, rfl, hi, _⟩ := hk c hc; exact sF i hi
  have kD : ∀ c ∈ kid l j, ((ed es c).1 = 0 ↔ (ed fs c).1 = far) ∧ ((ed fs c).1 = 0 ↔ (ed es c).1 = far) := fun c hc => by obtain ⟨i, rfl, hi, h⟩ := hk c hc; exact h
  rw [hE.at_ j hj, hF.at_ j hj]
  unfold NE
  by_cases hl : leafB l j = true
  · rw [if_pos hl, if_pos hl]; exact h j hj hl
  · rw [if_neg hl, if_neg hl]
    by_cases he : evB dep j = true
    · rw [if_pos (by rw [he]; rfl), if_neg (by rw [he]; simp), pickZ fun c hc => (kE c hc).2.lo, pickFar fun c hc => (kE c hc).2.hi, joinFar hT hj kF, joinZ fun c hc => ⟨(kF c hc).2.lo, (kF c hc).2.hi⟩]
      exact ⟨⟨fun ⟨c, hc, e⟩ => ⟨c, hc, (kD c hc).1.1 e⟩, fun ⟨c, hc, e⟩ => ⟨c, hc, (kD c hc).1.2 e⟩⟩, ⟨fun e c hc => (kD c hc).2.1 (e c hc), fun e c hc => (kD c hc).2.2 (e c hc)⟩⟩
    · have he' : evB dep j = false := by simpa using he
      rw [if_neg (by rw [he']; simp), if_pos (by rw [he']; rfl), pickZ fun c hc => (kF c hc).2.lo, pickFar fun c hc => (kF c hc).2.hi, joinFar hT hj kE, joinZ fun c hc => ⟨(kE c hc).2.lo, (kE c hc).2.hi⟩]
      exact ⟨⟨fun e c hc => (kD c hc).1.1 (e c hc), fun e c hc => (kD c hc).1.2 (e c hc)⟩, ⟨fun ⟨c, hc, e⟩ => ⟨c, hc, (kD c hc).2.1 e⟩, fun ⟨c, hc, e⟩ => ⟨c, hc, (kD c hc).2.2 e⟩⟩⟩
theorem maxL_ge {cs : List Int} {g : Int → Int} {b : Int} (h0 : cs ≠ []) : b ≤ maxL (cs.map g) ↔ ∃ c ∈ cs, b ≤ g c := by
  cases cs with
  | nil => exact absurd rfl h0
  | cons c r =>
    have : ∀ (r : List Int) (a : Int), b ≤ (r.map g).foldl max a ↔ b ≤ a ∨ ∃ c ∈ r, b ≤ g c := by
      intro r
      induction r with
      | nil => intro a; simp
      | cons x r ih =>
        intro a
        have hm : b ≤ max a (g x) ↔ b ≤ a ∨ b ≤ g x := by omega
        rw [List.map_cons, List.foldl_cons, ih, hm, or_assoc]
        simp only [List.mem_cons, exists_eq_or_imp]
    simp only [maxL, List.map_cons]
    rw [this]
    simp
theorem minL_ge {cs : List Int} {g : Int → Int} {b : Int} (h0 : cs ≠ []) : b ≤ minL (cs.map g) ↔ ∀ c ∈ cs, b ≤ g c := by
  cases cs with
  | nil => exact absurd rfl h0
  | cons c r =>
    have : ∀ (r : List Int) (a : Int), b ≤ (r.map g).foldl min a ↔ b ≤ a ∧ ∀ c ∈ r, b ≤ g c := by
      intro r
      induction r with
      | nil => intro a; simp
      | cons x r ih =>
        intro a
        have hm : b ≤ min a (g x) ↔ b ≤ a ∧ b ≤ g x := by omega
        rw [List.map_cons, List.foldl_cons, ih, hm, and_assoc]
        simp only [List.mem_cons, forall_eq_or_imp]
    simp only [minL, List.map_cons]
    rw [this]
    simp
/-- No effort is needed exactly where the value suffices. -/
theorem zero_iff {l : List Nd} {dep : List Int} {tf wf : Int → Int} {es : List Ef} {vs : List Int} {b : Int} (hT : TF l dep) (hE : NeedP l dep true tf es) (hv : ValP l dep wf vs) (ht : ∀ i : Nat, leafB l i = true → tf i = 0 ∨ tf i = 1 ∨ tf i = far)
    (h : ∀ i : Nat, i < l.length → leafB l i = true → (tf i = 0 ↔ b ≤ wf i)) : ∀ j : Nat, j < l.length → ((es.getD j (0, [])).1 = 0 ↔ b ≤ vs.getD j 0) := by
  have sE := need_small hT hE ht
  refine need_all hT hE (Q := fun j => ((es.getD j (0, [])).1 = 0 ↔ b ≤ vs.getD j 0)) fun j hj hk => ?_
  have kE : ∀ c ∈ kid l j, GoodE l c (ed es c).2 ∧ Small l (ed es c) := fun c hc => by obtain ⟨i, rfl, hi, _⟩ := hk c hc; exact sE i hi
  have kD : ∀ c ∈ kid l j, ((ed es c).1 = 0 ↔ b ≤ rd vs c) := fun c hc => by obtain ⟨i, rfl, hi, h⟩ := hk c hc; exact h
  rw [hE.at_ j hj, hv.at_ j hj]
  unfold NE NV
  by_cases hl : leafB l j = true
  · rw [if_pos hl, if_pos hl]; exact h j hj hl
  · rw [if_neg hl, if_neg hl]
    have hne : kid l j ≠ [] := fun e => hl (by unfold leafB; rw [e]; rfl)
    by_cases he : evB dep j = true
    · rw [if_pos (by rw [he]; rfl), if_pos he, pickZ fun c hc => (kE c hc).2.lo, maxL_ge hne]
      exact ⟨fun ⟨c, hc, e⟩ => ⟨c, hc, (kD c hc).1 e⟩, fun ⟨c, hc, e⟩ => ⟨c, hc, (kD c hc).2 e⟩⟩
    · rw [if_neg (by simpa using he), if_neg he, joinZ fun c hc => ⟨(kE c hc).2.lo, (kE c hc).2.hi⟩, minL_ge hne]
      exact ⟨fun e c hc => (kD c hc).1 (e c hc), fun e c hc => (kD c hc).2 (e c hc)⟩
/-- What holds for the leaves' efforts and goes through least ones and sums. -/
theorem zero_mono {l : List Nd} {dep : List Int} {mx : Bool} {tf tg : Int → Int} {es gs : List Ef} (hT : TF l dep) (hE : NeedP l dep mx tf es) (hG : NeedP l dep mx tg gs) (ht : ∀ i : Nat, leafB l i = true → tf i = 0 ∨ tf i = 1 ∨ tf i = far) (hg : ∀ i : Nat, leafB l i = true → tg i = 0 ∨ tg i = 1 ∨ tg i = far)
    (h : ∀ i : Nat, i < l.length → leafB l i = true → tf i = 0 → tg i = 0) : ∀ j : Nat, j < l.length → (es.getD j (0, [])).1 = 0 → (gs.getD j (0, [])).1 = 0 := by
  have sE := need_small hT hE ht
  have sG := need_small hT hG hg
  refine need_all hT hE (Q := fun j => (es.getD j (0, [])).1 = 0 → (gs.getD j (0, [])).1 = 0) fun j hj hk => ?_
  have kE : ∀ c ∈ kid l j, GoodE l c (ed es c).2 ∧ Small l (ed es c) := fun c hc => by obtain ⟨i, rfl, hi, _⟩ := hk c hc; exact sE i hi
  have kG : ∀ c ∈ kid l j, GoodE l c (ed gs c).2 ∧ Small l (ed gs c) := fun c hc => by obtain ⟨i, rfl, hi, _⟩ := hk c hc; exact sG i hi
  have kD : ∀ c ∈ kid l j, (ed es c).1 = 0 → (ed gs c).1 = 0 := fun c hc => by obtain ⟨i, rfl, hi, h⟩ := hk c hc; exact h
  rw [hE.at_ j hj, hG.at_ j hj]
  unfold NE
  by_cases hl : leafB l j = true
  · rw [if_pos hl, if_pos hl]; exact h j hj hl
  · rw [if_neg hl, if_neg hl]
    by_cases he : (evB dep j == mx) = true
    · rw [if_pos he, if_pos he, pickZ fun c hc => (kE c hc).2.lo, pickZ fun c hc => (kG c hc).2.lo]
      exact fun ⟨c, hc, e⟩ => ⟨c, hc, kD c hc e⟩
    · rw [if_neg he, if_neg he, joinZ fun c hc => ⟨(kE c hc).2.lo, (kE c hc).2.hi⟩, joinZ fun c hc => ⟨(kG c hc).2.lo, (kG c hc).2.hi⟩]
      exact fun e c hc => kD c hc (e c hc)
/-- Where no leaf is free, no node is. -/
theorem zero_none {l : List Nd} {dep : List Int} {mx : Bool} {tf : Int → Int} {es : List Ef} (hT : TF l dep) (hE : NeedP l dep mx tf es) (ht : ∀ i : Nat, leafB l i = true → tf i = 0 ∨ tf i = 1 ∨ tf i = far)
    (h : ∀ i : Nat, i < l.length → leafB l i = true → tf i ≠ 0) : ∀ j : Nat, j < l.length → (es.getD j (0, [])).1 ≠ 0 := by
  have sE := need_small hT hE ht
  refine need_all hT hE (Q := fun j => (es.getD j (0, [])).1 ≠ 0) fun j hj hk => ?_
  have kE : ∀ c ∈ kid l j, GoodE l c (ed es c).2 ∧ Small l (ed es c) := fun c hc => by obtain ⟨i, rfl, hi, _⟩ := hk c hc; exact sE i hi
  have kD : ∀ c ∈ kid l j, (ed es c).1 ≠ 0 := fun c hc => by obtain ⟨i, rfl, hi, h⟩ := hk c hc; exact h
  rw [hE.at_ j hj]
  unfold NE
  by_cases hl : leafB l j = true
  · rw [if_pos hl]; exact h j hj hl
  · rw [if_neg hl]
    have hne : kid l j ≠ [] := fun e => hl (by unfold leafB; rw [e]; rfl)
    by_cases he : (evB dep j == mx) = true
    · rw [if_pos he, ne_eq, pickZ fun c hc => (kE c hc).2.lo]
      exact fun ⟨c, hc, e⟩ => kD c hc e
    · rw [if_neg he, ne_eq, joinZ fun c hc => ⟨(kE c hc).2.lo, (kE c hc).2.hi⟩]
      intro e
      cases hk2 : kid l j with
      | nil => exact hne hk2
      | cons c r => have hm : c ∈ kid l j := by rw [hk2]; simp
                    exact kD c hm (e c hm)
/-- Where every leaf is free or out of reach, so is every node. -/
theorem zero_or_far {l : List Nd} {dep : List Int} {mx : Bool} {tf : Int → Int} {es : List Ef} (hT : TF l dep) (hE : NeedP l dep mx tf es) (ht : ∀ i : Nat, leafB l i = true → tf i = 0 ∨ tf i = 1 ∨ tf i = far)
    (h : ∀ i : Nat, i < l.length → leafB l i = true → tf i = 0 ∨ tf i = far) : ∀ j : Nat, j < l.length → (es.getD j (0, [])).1 = 0 ∨ (es.getD j (0, [])).1 = far := by
  have sE := need_small hT hE ht
  refine need_all hT hE (Q := fun j => (es.getD j (0, [])).1 = 0 ∨ (es.getD j (0, [])).1 = far) fun j hj hk => ?_
  have kE : ∀ c ∈ kid l j, GoodE l c (ed es c).2 ∧ Small l (ed es c) := fun c hc => by obtain ⟨i, rfl, hi, _⟩ := hk c hc; exact sE i hi
  have kD : ∀ c ∈ kid l j, (ed es c).1 = 0 ∨ (ed es c).1 = far := fun c hc => by obtain ⟨i, rfl, hi, h⟩ := hk c hc; exact h
  rw [hE.at_ j hj]
  unfold NE
  by_cases hl : leafB l j = true
  · rw [if_pos hl]; exact h j hj hl
  · rw [if_neg hl]
    by_cases he : (evB dep j == mx) = true
    · rw [if_pos he]
      obtain ⟨_, _, h3⟩ := pick_le (es := es) (kid l j) (far, [])
      rcases h3 with h3 | ⟨c, hc, h3⟩
      · rw [h3]; exact .inr rfl
      · rw [h3]; exact kD c hc
    · rw [if_neg he, joinFar hT hj kE, joinZ fun c hc => ⟨(kE c hc).2.lo, (kE c hc).2.hi⟩]
      by_cases hx : ∃ c ∈ kid l j, (ed es c).1 = far
      · exact .inr hx
      · exact .inl fun c hc => by rcases kD c hc with e | e; exact e; exact absurd ⟨c, hc, e⟩ hx
end Go.Proofs.Ytdiljpnfochndaa.HP
/- The statements about proofs: what is decided, and by how many leaves. -/
namespace Go.Proofs.Ytdiljpnfochndaa.HP
theorem tree_ind {l : List Nd} {dep : List Int} (hT : TF l dep) {Q : Nat → Prop}
    (h : ∀ j : Nat, j < l.length → (∀ c ∈ kid l j, ∃ i : Nat, c = i ∧ i < l.length ∧ Q i) → Q j) : ∀ j : Nat, j < l.length → Q j := by
  have key : ∀ d j : Nat, l.length - j = d → j < l.length → Q j := by
    intro d
    induction d using Nat.strongRecOn with
    | _ d ih =>
      intro j hd hj
      refine h j hj fun c hc => ?_
      obtain ⟨h1, h2⟩ := mem_kid hT hj hc
      exact ⟨c.toNat, by omega, by omega, ih (l.length - c.toNat) (by omega) c.toNat rfl (by omega)⟩
  exact fun j hj => key _ j rfl hj
theorem maxL_le {cs : List Int} {g : Int → Int} {b : Int} (h0 : cs ≠ []) : maxL (cs.map g) ≤ b ↔ ∀ c ∈ cs, g c ≤ b := by
  have := maxL_ge (g := g) (b := b + 1) h0
  constructor
  · intro h c hc
    rcases Int.lt_or_le b (g c) with h1 | h1
    · have := this.2 ⟨c, hc, h1⟩; omega
    · exact h1
  · intro h
    rcases Int.lt_or_le b (maxL (cs.map g)) with h1 | h1
    · obtain ⟨c, hc, h2⟩ := this.1 h1
      have := h c hc
      omega
    · exact h1
theorem minL_le {cs : List Int} {g : Int → Int} {b : Int} (h0 : cs ≠ []) : minL (cs.map g) ≤ b ↔ ∃ c ∈ cs, g c ≤ b := by
  have := minL_ge (g := g) (b := b + 1) h0
  constructor
  · intro h
    by_cases hx : ∃ c ∈ cs, g c ≤ b
    · exact hx
    · have := this.2 fun c hc => by
        rcases Int.lt_or_le b (g c) with h1 | h1
        · exact h1
        · exact absurd ⟨c, hc, h1⟩ hx
      omega
  · rintro ⟨c, hc, h⟩
    rcases Int.lt_or_le b (minL (cs.map g)) with h1 | h1
    · have := this.1 h1 c hc; omega
    · exact h1
theorem leaf_ne {l : List Nd} {j : Int} (h : ¬ leafB l j = true) : kid l j ≠ [] := fun e => h (by unfold leafB; rw [e]; rfl)
theorem val_thr {l : List Nd} {dep : List Int} (hT : TF l dep) {f g : Int → Int} {vs us : List Int} (hv : ValP l dep f vs) (hu : ValP l dep g us) {b c : Int} (h : ∀ i : Nat, i < l.length → leafB l i = true → (b ≤ f i ↔ c ≤ g i)) :
    ∀ j : Nat, j < l.length → (b ≤ vs.getD j 0 ↔ c ≤ us.getD j 0) := by
  refine tree_ind hT (Q := fun j => (b ≤ vs.getD j 0 ↔ c ≤ us.getD j 0)) fun j hj hk => ?_
  have kD : ∀ x ∈ kid l j, (b ≤ rd vs x ↔ c ≤ rd us x) := fun x hx => by obtain ⟨i, rfl, hi, h⟩ := hk x hx; exact h
  rw [hv.at_ j hj, hu.at_ j hj]
  unfold NV
  by_cases hl : leafB l j = true
  · rw [if_pos hl, if_pos hl]; exact h j hj hl
  · have hne := leaf_ne hl
    rw [if_neg hl, if_neg hl]
    by_cases he : evB dep j = true
    · rw [if_pos he, if_pos he, maxL_ge hne, maxL_ge hne]
      exact ⟨fun ⟨x, hx, e⟩ => ⟨x, hx, (kD x hx).1 e⟩, fun ⟨x, hx, e⟩ => ⟨x, hx, (kD x hx).2 e⟩⟩
    · rw [if_neg he, if_neg he, minL_ge hne, minL_ge hne]
      exact ⟨fun e x hx => (kD x hx).1 (e x hx), fun e x hx => (kD x hx).2 (e x hx)⟩
/-! ### The reference's count -/
abbrev farR : Int := 1000000
def sumL : List Int → Int
  | [] => 0
  | x :: r => x + sumL r
def sumC : List Int → Int
  | [] => 0
  | x :: r => r.foldl (fun a n => min farR (n + a)) x
def RN (l : List Nd) (dep : List Int) (mx : Bool) (al : Int → Int) (rs : List Int) (j : Int) : Int :=
  if leafB l j then al j else if evB dep j == mx then minL ((kid l j).map (rd rs)) else sumC ((kid l j).map (rd rs))
structure RNeedP (l : List Nd) (dep : List Int) (mx : Bool) (al : Int → Int) (rs : List Int) : Prop where
  len : rs.length = l.length
  at_ : ∀ j : Nat, j < l.length → rs.getD j 0 = RN l dep mx al rs j
theorem RN_congr {l : List Nd} {dep : List Int} (h : TF l dep) {i : Nat} (hi : i < l.length) {mx : Bool} {al : Int → Int} {vs us : List Int} (he : ∀ j : Nat, i < j → j < l.length → vs.getD j 0 = us.getD j 0) : RN l dep mx al vs i = RN l dep mx al us i := by
  unfold RN
  rw [map_rd_congr h hi he]
theorem rn_set {l : List Nd} {dep : List Int} (h : TF l dep) {mx : Bool} {al : Int → Int} {os : List Int} {q : Nat} (hq : q < l.length) (hol : os.length = l.length) {x : Int} (hx : x = RN l dep mx al os q) (hval : ∀ j : Nat, q + 1 ≤ j → j < l.length → os.getD j 0 = RN l dep mx al os j) :
    ∀ j : Nat, q ≤ j → j < l.length → (os.set q x).getD j 0 = RN l dep mx al (os.set q x) j := by
  intro j h1 h2
  have hc : RN l dep mx al (os.set q x) j = RN l dep mx al os j := RN_congr h h2 fun i hi hil => getD_set_ne (by omega)
  rw [hc]
  by_cases e : q = j
  · subst e; rw [getD_set_eq (by omega)]; exact hx
  · rw [getD_set_ne e]; exact hval j (by omega) h2
theorem sumL_nn : ∀ {xs : List Int}, (∀ x ∈ xs, 0 ≤ x) → 0 ≤ sumL xs
  | [], _ => Int.le_refl _
  | x :: r, h => by have := h x (by simp); have := sumL_nn (xs := r) fun y hy => h y (by simp [hy]); simp only [sumL]; omega
theorem sumL_mem : ∀ {xs : List Int}, (∀ x ∈ xs, 0 ≤ x) → ∀ x ∈ xs, x ≤ sumL xs
  | [], _, x, hx => by simp at hx
  | y :: r, h, x, hx => by
    have h0 := h y (by simp)
    have h1 := sumL_nn (xs := r) fun y hy => h y (by simp [hy])
    simp only [sumL]
    rcases List.mem_cons.1 hx with rfl | hx
    · omega
    · have := sumL_mem (xs := r) (fun y hy => h y (by simp [hy])) x hx; omega
theorem cap_sum (K : Int) (f : Int → Int → Int) (hf : ∀ a n, f a n = min K (a + n)) : ∀ (xs : List Int) (a : Int), a ≤ K → (∀ x ∈ xs, 0 ≤ x) → xs.foldl f a = min K (a + sumL xs)
  | [], a, ha, _ => by simp only [List.foldl_nil, sumL]; omega
  | x :: r, a, ha, h => by
    have h0 := h x (by simp)
    have h1 := sumL_nn (xs := r) fun y hy => h y (by simp [hy])
    rw [List.foldl_cons, cap_sum K f hf r _ (by rw [hf]; omega) (fun y hy => h y (by simp [hy])), hf]
    simp only [sumL]
    omega
theorem sumC_eq {xs : List Int} (h : ∀ x ∈ xs, 0 ≤ x ∧ x ≤ farR) : sumC xs = min farR (sumL xs) := by
  cases xs with
  | nil => rfl
  | cons x r =>
    have h0 := h x (by simp)
    simp only [sumC, sumL]
    rw [cap_sum farR _ (fun a n => by omega) r x h0.2 (fun y hy => (h y (by simp [hy])).1)]
theorem join_fst {es : List Ef} : ∀ (cs : List Int) (a : Ef), (cs.foldl (joinF es) a).1 = (cs.map fun c => (ed es c).1).foldl (fun a n => min far (a + n)) a.1
  | [], _ => rfl
  | c :: r, a => by rw [List.foldl_cons, join_fst r, List.map_cons, List.foldl_cons]; rfl
theorem sumL_congr {f g : Int → Int} : ∀ (cs : List Int), (∀ c ∈ cs, f c = g c) → sumL (cs.map f) = sumL (cs.map g)
  | [], _ => rfl
  | c :: r, h => by simp only [List.map_cons, sumL]; rw [h c (by simp), sumL_congr r fun x hx => h x (by simp [hx])]
theorem ref_need {l : List Nd} {dep : List Int} {mx : Bool} {lf al : Int → Int} {es : List Ef} {rs : List Int} (hT : TF l dep) (hE : NeedP l dep mx lf es) (hR : RNeedP l dep mx al rs) (h3 : ∀ i : Nat, leafB l i = true → lf i = 0 ∨ lf i = 1 ∨ lf i = far)
    (hal : ∀ i : Nat, i < l.length → leafB l i = true → (lf i < far → al i = lf i) ∧ (lf i = far → al i = farR)) :
    ∀ j : Nat, j < l.length → ((es.getD j (0, [])).1 < far → rs.getD j 0 = (es.getD j (0, [])).1) ∧ ((es.getD j (0, [])).1 = far → rs.getD j 0 = farR) := by
  have sE := need_small hT hE h3
  refine tree_ind hT (Q := fun j => ((es.getD j (0, [])).1 < far → rs.getD j 0 = (es.getD j (0, [])).1) ∧ ((es.getD j (0, [])).1 = far → rs.getD j 0 = farR)) fun j hj hk => ?_
  have kE : ∀ c ∈ kid l j, GoodE l c (ed es c).2 ∧ Small l (ed es c) := fun c hc => by obtain ⟨i, rfl, hi, _⟩ := hk c hc; exact sE i hi
  have kR : ∀ c ∈ kid l j, ((ed es c).1 < far → rd rs c = (ed es c).1) ∧ ((ed es c).1 = far → rd rs c = farR) := fun c hc => by obtain ⟨i, rfl, hi, h⟩ := hk c hc; exact h
  have k60 : ∀ c ∈ kid l j, (ed es c).1 < far → (ed es c).1 ≤ 60 := fun c hc h => small60 hT (kE c hc).1 (kE c hc).2 h
  have kb : ∀ c ∈ kid l j, 0 ≤ rd rs c ∧ rd rs c ≤ farR := fun c hc => by
    have h1 := (kE c hc).2.lo
    have h2 := (kE c hc).2.hi
    rcases Int.lt_or_le (ed es c).1 far with h | h
    · have := k60 c hc h; rw [(kR c hc).1 h]; simp only [farR]; omega
    · rw [(kR c hc).2 (by omega)]; exact ⟨by decide, by decide⟩
  have hj60 : (es.getD j (0, [])).1 < far → (es.getD j (0, [])).1 ≤ 60 := fun h => small60 hT (sE j hj).1 (sE j hj).2 h
  rw [hE.at_ j hj] at hj60 ⊢
  rw [hR.at_ j hj]
  unfold NE at hj60 ⊢
  unfold RN
  by_cases hl : leafB l j = true
  · rw [if_pos hl, if_pos hl]; exact hal j hj hl
  · have hne := leaf_ne hl
    rw [if_neg hl] at hj60 ⊢
    rw [if_neg hl]
    by_cases he : (evB dep j == mx) = true
    · rw [if_pos he] at hj60 ⊢
      rw [if_pos he]
      obtain ⟨_, h2, h3⟩ := pick_le (es := es) (kid l j) (far, [])
      refine ⟨fun hlt => ?_, fun hf => ?_⟩
      · have h60 := hj60 hlt
        rcases h3 with h3 | ⟨c, hc, h3⟩
        · rw [h3] at hlt; simp at hlt
        · have hge : ((kid l j).foldl (pickF es) (far, [])).1 ≤ minL ((kid l j).map (rd rs)) := (minL_ge hne).2 fun x hx => by
            have := h2 x hx
            rcases Int.lt_or_le (ed es x).1 far with h | h
            · rw [(kR x hx).1 h]; exact this
            · rw [(kR x hx).2 (by have := (kE x hx).2.hi; omega)]; simp only [farR]; omega
          have hle : minL ((kid l j).map (rd rs)) ≤ ((kid l j).foldl (pickF es) (far, [])).1 := (minL_le hne).2 ⟨c, hc, by rw [h3] at hlt ⊢; rw [(kR c hc).1 hlt]; exact Int.le_refl _⟩
          omega
      · have hall := (pickFar fun c hc => (kE c hc).2.hi).1 hf
        have hge : farR ≤ minL ((kid l j).map (rd rs)) := (minL_ge hne).2 fun x hx => by rw [(kR x hx).2 (hall x hx)]; exact Int.le_refl _
        obtain ⟨c, hc⟩ := List.exists_mem_of_ne_nil _ hne
        have hle : minL ((kid l j).map (rd rs)) ≤ farR := (minL_le hne).2 ⟨c, hc, (kb c hc).2⟩
        omega
    · rw [if_neg he] at hj60 ⊢
      rw [if_neg he]
      have hjs := join_fst (es := es) (kid l j) (0, [])
      rw [cap_sum far _ (fun a n => rfl) _ _ (by decide) (fun x hx => by obtain ⟨c, hc, rfl⟩ := List.mem_map.1 hx; exact (kE c hc).2.lo)] at hjs
      have hsc := sumC_eq (xs := (kid l j).map (rd rs)) fun x hx => by obtain ⟨c, hc, rfl⟩ := List.mem_map.1 hx; exact kb c hc
      refine ⟨fun hlt => ?_, fun hf => ?_⟩
      · have h60 := hj60 hlt
        obtain ⟨_, h2, _⟩ := join_sum (es := es) (kid l j) (0, []) (by decide) (by decide) fun c hc => ⟨(kE c hc).2.lo, (kE c hc).2.hi⟩
        have := sumL_congr (f := rd rs) (g := fun c => (ed es c).1) (kid l j) fun c hc => (kR c hc).1 (Int.lt_of_le_of_lt (h2 c hc) hlt)
        rw [hsc, this]
        simp only [farR, far] at *
        omega
      · obtain ⟨c, hc, e⟩ := (joinFar hT hj kE).1 hf
        have := sumL_mem (xs := (kid l j).map (rd rs)) (fun x hx => by obtain ⟨c, hc, rfl⟩ := List.mem_map.1 hx; exact (kb c hc).1) (rd rs c) (List.mem_map.2 ⟨c, hc, rfl⟩)
        rw [(kR c hc).2 e] at this
        rw [hsc]
        omega
/-! ### Lists of an effort -/
theorem join_mem {es : List Ef} {x : Int} : ∀ (cs : List Int) (a : Ef), x ∈ (cs.foldl (joinF es) a).2 ↔ x ∈ a.2 ∨ ∃ c ∈ cs, x ∈ (ed es c).2
  | [], a => by simp
  | c :: r, a => by
    rw [List.foldl_cons, join_mem r]
    simp only [joinF, List.mem_append, List.mem_cons, exists_eq_or_imp, or_assoc]
theorem proof_ge {l : List Nd} {dep : List Int} {lf wf : Int → Int} {es : List Ef} {vs : List Int} {b : Int} {S : List Int} (hT : TF l dep) (hE : NeedP l dep true lf es) (hv : ValP l dep wf vs) (h3 : ∀ i : Nat, leafB l i = true → lf i = 0 ∨ lf i = 1 ∨ lf i = far)
    (h : ∀ i : Nat, i < l.length → leafB l i = true → lf i < far → (i : Int) ∈ S → b ≤ wf i) : ∀ j : Nat, j < l.length → (es.getD j (0, [])).1 < far → (∀ x ∈ (es.getD j (0, [])).2, x ∈ S) → b ≤ vs.getD j 0 := by
  have sE := need_small hT hE h3
  refine tree_ind hT (Q := fun j => (es.getD j (0, [])).1 < far → (∀ x ∈ (es.getD j (0, [])).2, x ∈ S) → b ≤ vs.getD j 0) fun j hj hk => ?_
  have kE : ∀ c ∈ kid l j, GoodE l c (ed es c).2 ∧ Small l (ed es c) := fun c hc => by obtain ⟨i, rfl, hi, _⟩ := hk c hc; exact sE i hi
  have kD : ∀ c ∈ kid l j, (ed es c).1 < far → (∀ x ∈ (ed es c).2, x ∈ S) → b ≤ rd vs c := fun c hc => by obtain ⟨i, rfl, hi, h⟩ := hk c hc; exact h
  rw [hE.at_ j hj, hv.at_ j hj]
  unfold NE NV
  by_cases hl : leafB l j = true
  · rw [if_pos hl, if_pos hl]
    exact fun h1 h2 => h j hj hl h1 (h2 _ (by simp))
  · have hne := leaf_ne hl
    rw [if_neg hl, if_neg hl]
    by_cases he : evB dep j = true
    · rw [if_pos (by rw [he]; rfl), if_pos he, maxL_ge hne]
      intro h1 h2
      obtain ⟨_, _, q⟩ := pick_le (es := es) (kid l j) (far, [])
      rcases q with q | ⟨c, hc, q⟩
      · rw [q] at h1; simp at h1
      · rw [q] at h1 h2; exact ⟨c, hc, kD c hc h1 h2⟩
    · rw [if_neg (by simpa using he), if_neg he, minL_ge hne]
      intro h1 h2 c hc
      obtain ⟨_, q, _⟩ := join_sum (es := es) (kid l j) (0, []) (by decide) (by decide) fun c hc => ⟨(kE c hc).2.lo, (kE c hc).2.hi⟩
      exact kD c hc (Int.lt_of_le_of_lt (q c hc) h1) fun x hx => h2 x ((join_mem _ _).2 (.inr ⟨c, hc, hx⟩))
theorem refute_le {l : List Nd} {dep : List Int} {lf wf : Int → Int} {es : List Ef} {vs : List Int} {b : Int} {S : List Int} (hT : TF l dep) (hE : NeedP l dep false lf es) (hv : ValP l dep wf vs) (h3 : ∀ i : Nat, leafB l i = true → lf i = 0 ∨ lf i = 1 ∨ lf i = far)
    (h : ∀ i : Nat, i < l.length → leafB l i = true → lf i < far → (i : Int) ∈ S → wf i ≤ b) : ∀ j : Nat, j < l.length → (es.getD j (0, [])).1 < far → (∀ x ∈ (es.getD j (0, [])).2, x ∈ S) → vs.getD j 0 ≤ b := by
  have sE := need_small hT hE h3
  refine tree_ind hT (Q := fun j => (es.getD j (0, [])).1 < far → (∀ x ∈ (es.getD j (0, [])).2, x ∈ S) → vs.getD j 0 ≤ b) fun j hj hk => ?_
  have kE : ∀ c ∈ kid l j, GoodE l c (ed es c).2 ∧ Small l (ed es c) := fun c hc => by obtain ⟨i, rfl, hi, _⟩ := hk c hc; exact sE i hi
  have kD : ∀ c ∈ kid l j, (ed es c).1 < far → (∀ x ∈ (ed es c).2, x ∈ S) → rd vs c ≤ b := fun c hc => by obtain ⟨i, rfl, hi, h⟩ := hk c hc; exact h
  rw [hE.at_ j hj, hv.at_ j hj]
  unfold NE NV
  by_cases hl : leafB l j = true
  · rw [if_pos hl, if_pos hl]
    exact fun h1 h2 => h j hj hl h1 (h2 _ (by simp))
  · have hne := leaf_ne hl
    rw [if_neg hl, if_neg hl]
    by_cases he : evB dep j = true
    · rw [if_neg (by rw [he]; simp), if_pos he, maxL_le hne]
      intro h1 h2 c hc
      obtain ⟨_, q, _⟩ := join_sum (es := es) (kid l j) (0, []) (by decide) (by decide) fun c hc => ⟨(kE c hc).2.lo, (kE c hc).2.hi⟩
      exact kD c hc (Int.lt_of_le_of_lt (q c hc) h1) fun x hx => h2 x ((join_mem _ _).2 (.inr ⟨c, hc, hx⟩))
    · have he' : evB dep j = false := by simpa using he
      rw [if_pos (by rw [he']; rfl), if_neg he, minL_le hne]
      intro h1 h2
      obtain ⟨_, _, q⟩ := pick_le (es := es) (kid l j) (far, [])
      rcases q with q | ⟨c, hc, q⟩
      · rw [q] at h1; simp at h1
      · rw [q] at h1 h2; exact ⟨c, hc, kD c hc h1 h2⟩
/-- The lists are as long as the efforts. -/
theorem need_len {l : List Nd} {dep : List Int} {mx : Bool} {lf : Int → Int} {es : List Ef} (hT : TF l dep) (hE : NeedP l dep mx lf es) (h3 : ∀ i : Nat, leafB l i = true → lf i = 1 ∨ lf i = far) :
    ∀ j : Nat, j < l.length → (es.getD j (0, [])).1 < far → (es.getD j (0, [])).1 = (es.getD j (0, [])).2.length := by
  have sE := need_small hT hE fun i hl => .inr (h3 i hl)
  refine tree_ind hT (Q := fun j => (es.getD j (0, [])).1 < far → (es.getD j (0, [])).1 = (es.getD j (0, [])).2.length) fun j hj hk => ?_
  have kE : ∀ c ∈ kid l j, GoodE l c (ed es c).2 ∧ Small l (ed es c) := fun c hc => by obtain ⟨i, rfl, hi, _⟩ := hk c hc; exact sE i hi
  have kD : ∀ c ∈ kid l j, (ed es c).1 < far → (ed es c).1 = (ed es c).2.length := fun c hc => by obtain ⟨i, rfl, hi, h⟩ := hk c hc; exact h
  rw [hE.at_ j hj]
  unfold NE
  by_cases hl : leafB l j = true
  · rw [if_pos hl]
    intro h1
    rcases h3 j hl with e | e <;> simp only [e] at h1 ⊢ <;> simp at h1 ⊢
  · rw [if_neg hl]
    by_cases he : (evB dep j == mx) = true
    · rw [if_pos he]
      intro h1
      obtain ⟨_, _, q⟩ := pick_le (es := es) (kid l j) (far, [])
      rcases q with q | ⟨c, hc, q⟩
      · rw [q] at h1; simp at h1
      · rw [q] at h1 ⊢; exact kD c hc h1
    · rw [if_neg he]
      intro h1
      obtain ⟨_, q, _⟩ := join_sum (es := es) (kid l j) (0, []) (by decide) (by decide) fun c hc => ⟨(kE c hc).2.lo, (kE c hc).2.hi⟩
      have hlt : ∀ c ∈ kid l j, (ed es c).1 < far := fun c hc => Int.lt_of_le_of_lt (q c hc) h1
      have : ∀ (cs : List Int) (a : Ef), (∀ c ∈ cs, c ∈ kid l j) → a.1 = a.2.length → (cs.foldl (joinF es) a).1 < far → (cs.foldl (joinF es) a).1 = (cs.foldl (joinF es) a).2.length := by
        intro cs
        induction cs with
        | nil => intro a _ ha _; exact ha
        | cons c r ih =>
          intro a hc ha h1
          rw [List.foldl_cons] at h1 ⊢
          refine ih _ (fun x hx => hc x (by simp [hx])) ?_ h1
          have hs := join_sum (es := es) r (joinF es a c) (by simp only [joinF]; have := (kE c (hc c (by simp))).2.lo; simp only [far]; omega) (by simp only [joinF]; omega) fun x hx => ⟨(kE x (hc x (by simp [hx]))).2.lo, (kE x (hc x (by simp [hx]))).2.hi⟩
          have h2 : (joinF es a c).1 < far := Int.lt_of_le_of_lt hs.1 h1
          have h4 := kD c (hc c (by simp)) (hlt c (hc c (by simp)))
          simp only [joinF, List.length_append] at h2 ⊢
          omega
      exact this _ _ (fun c h => h) (by simp) h1
theorem join_len {es es' : List Ef} : ∀ (cs : List Int) (a a' : Ef), (∀ c ∈ cs, (ed es c).1 ≤ (ed es' c).2.length) → a.1 ≤ a'.2.length → (cs.foldl (joinF es) a).1 ≤ (cs.foldl (joinF es') a').2.length
  | [], _, _, _, h => h
  | c :: r, a, a', hc, h => by
    have := hc c (by simp)
    refine join_len r _ _ (fun x hx => hc x (by simp [hx])) ?_
    simp only [joinF, List.length_append]
    omega
/-- Whoever decides has as many leaves. -/
theorem proof_min {l : List Nd} {dep : List Int} {lf wf : Int → Int} {es : List Ef} {vs : List Int} {b : Int} {S : List Int} (hT : TF l dep) (hE : NeedP l dep true lf es) (hv : ValP l dep wf vs)
    (h : ∀ i : Nat, i < l.length → leafB l i = true → b ≤ wf i → (i : Int) ∈ S ∧ lf i ≤ 1) : ∀ j : Nat, j < l.length → b ≤ vs.getD j 0 → ∃ ys, GoodE l j ys ∧ (∀ x ∈ ys, x ∈ S) ∧ (es.getD j (0, [])).1 ≤ ys.length := by
  refine tree_ind hT (Q := fun j => b ≤ vs.getD j 0 → ∃ ys, GoodE l j ys ∧ (∀ x ∈ ys, x ∈ S) ∧ (es.getD j (0, [])).1 ≤ ys.length) fun j hj hk => ?_
  rw [hE.at_ j hj, hv.at_ j hj]
  unfold NE NV
  by_cases hl : leafB l j = true
  · rw [if_pos hl, if_pos hl]
    intro h1
    obtain ⟨q1, q2⟩ := h j hj hl h1
    refine ⟨[(j : Int)], ⟨fun x hx => ?_, by simp⟩, fun x hx => by simp at hx; rw [hx]; exact q1, by simpa using q2⟩
    simp at hx
    subst hx
    exact ⟨by omega, by omega, hl, 0, rfl⟩
  · have hne := leaf_ne hl
    rw [if_neg hl, if_neg hl]
    by_cases he : evB dep j = true
    · rw [if_pos he, if_pos (by rw [he]; rfl), maxL_ge hne]
      rintro ⟨c, hc, h1⟩
      obtain ⟨i, rfl, hi, hq⟩ := hk c hc
      obtain ⟨ys, hg, hs, hle⟩ := hq h1
      exact ⟨ys, hg.up hc, hs, Int.le_trans ((pick_le (es := es) (kid l j) (far, [])).2.1 _ hc) hle⟩
    · rw [if_neg he, if_neg (by simpa using he), minL_ge hne]
      intro h1
      have hx : ∀ i : Nat, ∃ ys : List Int, ((i : Int) ∈ kid l j → GoodE l i ys ∧ (∀ x ∈ ys, x ∈ S) ∧ (es.getD i (0, [])).1 ≤ ys.length) := fun i => by
        by_cases hc : (i : Int) ∈ kid l j
        · obtain ⟨i', e, hi, hq⟩ := hk _ hc
          obtain rfl : i = i' := by omega
          obtain ⟨ys, hh⟩ := hq (h1 _ hc)
          exact ⟨ys, fun _ => hh⟩
        · exact ⟨[], fun h => absurd h hc⟩
      let f : Nat → List Int := fun i => Classical.choose (hx i)
      have hf : ∀ i : Nat, (i : Int) ∈ kid l j → GoodE l i (f i) ∧ (∀ x ∈ f i, x ∈ S) ∧ (es.getD i (0, [])).1 ≤ (f i).length := fun i => Classical.choose_spec (hx i)
      let es' : List Ef := (List.range l.length).map fun i => (0, f i)
      have he' : ∀ c ∈ kid l j, ∃ i : Nat, c = i ∧ (i : Int) ∈ kid l j ∧ ed es' c = (0, f i) := fun c hc => by
        obtain ⟨i, rfl, hi, _⟩ := hk c hc
        refine ⟨i, rfl, hc, ?_⟩
        simp [ed, es', List.getD_eq_getElem?_getD, hi]
      have hg := (good_join hT hj (es := es') (fun c hc => by obtain ⟨i, rfl, hm, e⟩ := he' c hc; rw [e]; exact (hf i hm).1) (kid l j).length (Nat.le_refl _)).1
      rw [List.take_length] at hg
      refine ⟨_, hg, fun x hx => ?_, ?_⟩
      · rcases (join_mem _ _).1 hx with hx | ⟨c, hc, hx⟩
        · simp at hx
        · obtain ⟨i, rfl, hm, e⟩ := he' c hc
          rw [e] at hx
          exact (hf i hm).2.1 x hx
      · exact join_len _ _ _ (fun c hc => by obtain ⟨i, rfl, hm, e⟩ := he' c hc; rw [e]; exact (hf i hm).2.2) (by simp)
theorem nodup_sub : ∀ (ys S : List Int), ys.Nodup → (∀ x ∈ ys, x ∈ S) → ys.length ≤ S.length
  | [], _, _, _ => Nat.zero_le _
  | y :: r, S, hn, h => by
    have hy := h y (by simp)
    rw [List.nodup_cons] at hn
    have := nodup_sub r (S.erase y) hn.2 fun x hx => (List.mem_erase_of_ne (fun e => by subst e; exact hn.1 hx)).2 (h x (by simp [hx]))
    rw [List.length_erase, if_pos hy] at this
    have : 0 < S.length := List.length_pos_of_mem hy
    simp only [List.length_cons]
    omega
/-- The other side's efforts. -/
theorem zero_iffF {l : List Nd} {dep : List Int} {tf wf : Int → Int} {es : List Ef} {vs : List Int} {b : Int} (hT : TF l dep) (hE : NeedP l dep false tf es) (hv : ValP l dep wf vs) (ht : ∀ i : Nat, leafB l i = true → tf i = 0 ∨ tf i = 1 ∨ tf i = far)
    (h : ∀ i : Nat, i < l.length → leafB l i = true → (tf i = 0 ↔ wf i ≤ b)) : ∀ j : Nat, j < l.length → ((es.getD j (0, [])).1 = 0 ↔ vs.getD j 0 ≤ b) := by
  have sE := need_small hT hE ht
  refine tree_ind hT (Q := fun j => ((es.getD j (0, [])).1 = 0 ↔ vs.getD j 0 ≤ b)) fun j hj hk => ?_
  have kE : ∀ c ∈ kid l j, GoodE l c (ed es c).2 ∧ Small l (ed es c) := fun c hc => by obtain ⟨i, rfl, hi, _⟩ := hk c hc; exact sE i hi
  have kD : ∀ c ∈ kid l j, ((ed es c).1 = 0 ↔ rd vs c ≤ b) := fun c hc => by obtain ⟨i, rfl, hi, h⟩ := hk c hc; exact h
  rw [hE.at_ j hj, hv.at_ j hj]
  unfold NE NV
  by_cases hl : leafB l j = true
  · rw [if_pos hl, if_pos hl]; exact h j hj hl
  · have hne := leaf_ne hl
    rw [if_neg hl, if_neg hl]
    by_cases he : evB dep j = true
    · rw [if_neg (by rw [he]; simp), if_pos he, joinZ fun c hc => ⟨(kE c hc).2.lo, (kE c hc).2.hi⟩, maxL_le hne]
      exact ⟨fun e c hc => (kD c hc).1 (e c hc), fun e c hc => (kD c hc).2 (e c hc)⟩
    · have he' : evB dep j = false := by simpa using he
      rw [if_pos (by rw [he']; rfl), if_neg he, pickZ fun c hc => (kE c hc).2.lo, minL_le hne]
      exact ⟨fun ⟨c, hc, e⟩ => ⟨c, hc, (kD c hc).1 e⟩, fun ⟨c, hc, e⟩ => ⟨c, hc, (kD c hc).2 e⟩⟩
end Go.Proofs.Ytdiljpnfochndaa.HP
/- Reading trees, by facts that were told earlier. -/
namespace Go.Proofs.Ytdiljpnfochndaa
open Go Go.RowKit Go.Proofs.Ytdiljpnfochndaa.VW
open Go.Proofs.Ytdiljpnfochndaa.HP (Nd kid wor leafB)
section
variable {P : Program} [hT : Tab P] {n : Nat} {ds : List Deferred} {Φ : Post} {k : List It} {ρ : E} {w : World} {all : Array Oper} {l : List Oper} {md : Option (List Oper)} {s : Nat} {F : World → Prop} {π : List (Nat × Nat)} {L : List Bool}
theorem TreeM.at_ {w0 : World} {v : Value} {tr : List Nd} (h : TreeM w0 v tr) {i : Int} (h0 : 0 ≤ i) (hi : i < tr.length) : ∃ a c A' c', v = .slice (some a) tr.length c ∧ SlI w0 (.slice A' (kid tr i).length c') (kid tr i) ∧
    (∀ w, Below w0.heap.size w0 w → w.cell? (a.add (i.toNat * 2)) = some (.slice A' (kid tr i).length c') ∧ w.cell? ((a.add (i.toNat * 2)).add 1) = some (.int .i64 (wor tr i))) := by
  obtain ⟨A, c, cvs, rfl, h, hc⟩ := h
  obtain ⟨a, rfl, hcell⟩ := h (by omega)
  have h4 := hcell i.toNat (by omega)
  have h5 := hc i.toNat (by omega)
  obtain ⟨A', c', e⟩ := Sl.sl h5
  rw [e] at h4 h5
  refine ⟨a, c, A', c', rfl, h5, fun w hb => ?_⟩
  have kk := Kp.of_below (S := fun _ => False) hb
  exact ⟨cell_kp kk h4.1 (fun e => e), cell_kp kk h4.2 (fun e => e)⟩
theorem add_zero' (p : Addr) : p.add 0 = p := by simp [Addr.add]
theorem Ops.rdKB {o1 o2 o3 : Oper} {d1 d2 d3 t s t' : Nat} {x y : Operand} {v : Value} {i : Int} {tr : List Nd} {w0 : World} {c1 c2 c3 : Bool}
    (h1 : o1.op = .indexAddr t x y) (hd1 : o1.dst = some d1) (hg1 : gdB all ρ o1.guard = some c1) (hc1 : c1 = true) (h2 : o2.op = .fieldAddr s (.tmp d1) 0) (hd2 : o2.dst = some d2) (hg2 : ∀ p, gdB all ((d1, .pointer p) :: ρ) o2.guard = some c2) (hc2 : c2 = true) (h3 : o3.op = .load t' (.tmp d2)) (hd3 : o3.dst = some d3) (hg3 : ∀ p q, gdB all ((d2, .pointer q) :: (d1, .pointer p) :: ρ) o3.guard = some c3) (hc3 : c3 = true)
    (ht : tyD P t = some (.slice s)) (hs : tyS P s = some 2) (hf : fieldOff P s 0 = some (0, 1)) (ha : tyAgg P t' = some false) (hx : ev ρ x = some v) (hy : ev ρ y = some (.int .i64 i)) (htr : TreeM w0 v tr) (hbel : Below w0.heap.size w0 w) (h0 : 0 ≤ i) (hi : i < tr.length)
    (hk : ∀ A c p q, SlI w0 (.slice A (kid tr i).length c) (kid tr i) → Ops md P n ds all k Φ l ((d3, .slice A (kid tr i).length c) :: (d2, q) :: (d1, p) :: ρ) w) : Ops md P n ds all k Φ (o1 :: o2 :: o3 :: l) ρ w := by
  obtain ⟨a, c, A', c', rfl, hsl, hcell⟩ := htr.at_ h0 hi
  refine Ops.evG hd1 hg1 hc1 (EV.idx h1 ht hs hx hy h0 hi) (Ops.evG hd2 (hg2 _) hc2 (EV.fld h2 hf (ev_top _ _ _)) ?_)
  rw [add_zero']
  exact Ops.evG hd3 (hg3 _ _) hc3 (EV.ld h3 ha (ev_top _ _ _) (hcell w hbel).1) (hk _ _ _ _ hsl)
theorem Ops.rdWB {o1 o2 o3 : Oper} {d1 d2 d3 t s t' : Nat} {x y : Operand} {v : Value} {i : Int} {tr : List Nd} {w0 : World} {c1 c2 c3 : Bool}
    (h1 : o1.op = .indexAddr t x y) (hd1 : o1.dst = some d1) (hg1 : gdB all ρ o1.guard = some c1) (hc1 : c1 = true) (h2 : o2.op = .fieldAddr s (.tmp d1) 1) (hd2 : o2.dst = some d2) (hg2 : ∀ p, gdB all ((d1, .pointer p) :: ρ) o2.guard = some c2) (hc2 : c2 = true) (h3 : o3.op = .load t' (.tmp d2)) (hd3 : o3.dst = some d3) (hg3 : ∀ p q, gdB all ((d2, .pointer q) :: (d1, .pointer p) :: ρ) o3.guard = some c3) (hc3 : c3 = true)
    (ht : tyD P t = some (.slice s)) (hs : tyS P s = some 2) (hf : fieldOff P s 1 = some (1, 1)) (ha : tyAgg P t' = some false) (hx : ev ρ x = some v) (hy : ev ρ y = some (.int .i64 i)) (htr : TreeM w0 v tr) (hbel : Below w0.heap.size w0 w) (h0 : 0 ≤ i) (hi : i < tr.length)
    (hk : ∀ p q, Ops md P n ds all k Φ l ((d3, .int .i64 (wor tr i)) :: (d2, q) :: (d1, p) :: ρ) w) : Ops md P n ds all k Φ (o1 :: o2 :: o3 :: l) ρ w := by
  obtain ⟨a, c, A', c', rfl, hsl, hcell⟩ := htr.at_ h0 hi
  exact Ops.evG hd1 hg1 hc1 (EV.idx h1 ht hs hx hy h0 hi) (Ops.evG hd2 (hg2 _) hc2 (EV.fld h2 hf (ev_top _ _ _)) (Ops.evG hd3 (hg3 _ _) hc3 (EV.ld h3 ha (ev_top _ _ _) (hcell w hbel).2) (hk _ _)))
theorem Ops.rdNB {o1 o2 : Oper} {d1 d2 t s t' : Nat} {x y : Operand} {v : Value} {i : Int} {tr : List Nd} {w0 : World} {c1 c2 : Bool}
    (h1 : o1.op = .indexAddr t x y) (hd1 : o1.dst = some d1) (hg1 : gdB all ρ o1.guard = some c1) (hc1 : c1 = true) (h2 : o2.op = .load t' (.tmp d1)) (hd2 : o2.dst = some d2) (hg2 : ∀ p, gdB all ((d1, .pointer p) :: ρ) o2.guard = some c2) (hc2 : c2 = true)
    (ht : tyD P t = some (.slice s)) (hs : tyS P s = some 2) (hs' : tyS P t' = some 2) (ha : tyAgg P t' = some true) (hx : ev ρ x = some v) (hy : ev ρ y = some (.int .i64 i)) (htr : TreeM w0 v tr) (hbel : Below w0.heap.size w0 w) (h0 : 0 ≤ i) (hi : i < tr.length)
    (hk : ∀ A c p, SlI w0 (.slice A (kid tr i).length c) (kid tr i) → Ops md P n ds all k Φ l ((d2, .agg #[.slice A (kid tr i).length c, .int .i64 (wor tr i)]) :: (d1, p) :: ρ) w) : Ops md P n ds all k Φ (o1 :: o2 :: l) ρ w := by
  obtain ⟨a, c, A', c', rfl, hsl, hcell⟩ := htr.at_ h0 hi
  exact Ops.evG hd1 hg1 hc1 (EV.idx h1 ht hs hx hy h0 hi) (Ops.evG hd2 (hg2 _) hc2 (EV.ld2 h2 ha hs' (ev_top _ _ _) (hcell w hbel).1 (hcell w hbel).2) (hk _ _ _ hsl))
theorem OrdA.rdK {i1 i2 i3 d1 d2 d3 t s' t' : Nat} {o1 o2 o3 : Oper} {x y : Operand} {v : Value} {i : Int} {tr : List Nd} {w0 : World} {c1 c2 c3 : Bool}
    (e1 : all[i1]? = some o1) (h1 : o1.op = .indexAddr t x y) (hd1 : o1.dst = some d1) (hg1 : gdB all ρ o1.guard = some c1) (hc1 : c1 = true) (e2 : all[i2]? = some o2) (h2 : o2.op = .fieldAddr s' (.tmp d1) 0) (hd2 : o2.dst = some d2) (hg2 : ∀ p, gdB all ((d1, .pointer p) :: ρ) o2.guard = some c2) (hc2 : c2 = true)
    (e3 : all[i3]? = some o3) (h3 : o3.op = .load t' (.tmp d2)) (hd3 : o3.dst = some d3) (hg3 : ∀ p q, gdB all ((d2, .pointer q) :: (d1, .pointer p) :: ρ) o3.guard = some c3) (hc3 : c3 = true)
    (ht : tyD P t = some (.slice s')) (hs : tyS P s' = some 2) (hf : fieldOff P s' 0 = some (0, 1)) (ha : tyAgg P t' = some false) (hx : ev ρ x = some v) (hy : ev ρ y = some (.int .i64 i)) (htr : TreeM w0 v tr) (hF : ∀ w, F w → Below w0.heap.size w0 w) (h0 : 0 ≤ i) (hi : i < tr.length)
    (hk : ∀ A c p q, SlI w0 (.slice A (kid tr i).length c) (kid tr i) → OrdA P n ds all k Φ s F π (((L.set i1 true).set i2 true).set i3 true) ((d3, .slice A (kid tr i).length c) :: (d2, q) :: (d1, p) :: ρ)) : OrdA P n ds all k Φ s F ((i1, 1) :: (i2, 1) :: (i3, 2) :: π) L ρ := by
  obtain ⟨a, c, A', c', rfl, hsl, hcell⟩ := htr.at_ h0 hi
  refine OrdA.pure e1 hd1 hg1 hc1 (fun w => EV.idx h1 ht hs hx hy h0 hi) (OrdA.pure e2 hd2 (hg2 _) hc2 (fun w => EV.fld h2 hf (ev_top _ _ _)) ?_)
  rw [add_zero']
  exact OrdA.read e3 hd3 (hg3 _ _) hc3 (fun w hw => EV.ld h3 ha (ev_top _ _ _) (hcell w (hF w hw)).1) (hk _ _ _ _ hsl)
theorem OrdA.rdW {i1 i2 i3 d1 d2 d3 t s' t' : Nat} {o1 o2 o3 : Oper} {x y : Operand} {v : Value} {i : Int} {tr : List Nd} {w0 : World} {c1 c2 c3 : Bool}
    (e1 : all[i1]? = some o1) (h1 : o1.op = .indexAddr t x y) (hd1 : o1.dst = some d1) (hg1 : gdB all ρ o1.guard = some c1) (hc1 : c1 = true) (e2 : all[i2]? = some o2) (h2 : o2.op = .fieldAddr s' (.tmp d1) 1) (hd2 : o2.dst = some d2) (hg2 : ∀ p, gdB all ((d1, .pointer p) :: ρ) o2.guard = some c2) (hc2 : c2 = true)
    (e3 : all[i3]? = some o3) (h3 : o3.op = .load t' (.tmp d2)) (hd3 : o3.dst = some d3) (hg3 : ∀ p q, gdB all ((d2, .pointer q) :: (d1, .pointer p) :: ρ) o3.guard = some c3) (hc3 : c3 = true)
    (ht : tyD P t = some (.slice s')) (hs : tyS P s' = some 2) (hf : fieldOff P s' 1 = some (1, 1)) (ha : tyAgg P t' = some false) (hx : ev ρ x = some v) (hy : ev ρ y = some (.int .i64 i)) (htr : TreeM w0 v tr) (hF : ∀ w, F w → Below w0.heap.size w0 w) (h0 : 0 ≤ i) (hi : i < tr.length)
    (hk : ∀ p q, OrdA P n ds all k Φ s F π (((L.set i1 true).set i2 true).set i3 true) ((d3, .int .i64 (wor tr i)) :: (d2, q) :: (d1, p) :: ρ)) : OrdA P n ds all k Φ s F ((i1, 1) :: (i2, 1) :: (i3, 2) :: π) L ρ := by
  obtain ⟨a, c, A', c', rfl, hsl, hcell⟩ := htr.at_ h0 hi
  exact OrdA.pure e1 hd1 hg1 hc1 (fun w => EV.idx h1 ht hs hx hy h0 hi) (OrdA.pure e2 hd2 (hg2 _) hc2 (fun w => EV.fld h2 hf (ev_top _ _ _)) (OrdA.read e3 hd3 (hg3 _ _) hc3 (fun w hw => EV.ld h3 ha (ev_top _ _ _) (hcell w (hF w hw)).2) (hk _ _)))
theorem OrdA.rdN {i1 i2 d1 d2 t s' t' : Nat} {o1 o2 : Oper} {x y : Operand} {v : Value} {i : Int} {tr : List Nd} {w0 : World} {c1 c2 : Bool}
    (e1 : all[i1]? = some o1) (h1 : o1.op = .indexAddr t x y) (hd1 : o1.dst = some d1) (hg1 : gdB all ρ o1.guard = some c1) (hc1 : c1 = true) (e2 : all[i2]? = some o2) (h2 : o2.op = .load t' (.tmp d1)) (hd2 : o2.dst = some d2) (hg2 : ∀ p, gdB all ((d1, .pointer p) :: ρ) o2.guard = some c2) (hc2 : c2 = true)
    (ht : tyD P t = some (.slice s')) (hs : tyS P s' = some 2) (hs' : tyS P t' = some 2) (ha : tyAgg P t' = some true) (hx : ev ρ x = some v) (hy : ev ρ y = some (.int .i64 i)) (htr : TreeM w0 v tr) (hF : ∀ w, F w → Below w0.heap.size w0 w) (h0 : 0 ≤ i) (hi : i < tr.length)
    (hk : ∀ A c p, SlI w0 (.slice A (kid tr i).length c) (kid tr i) → OrdA P n ds all k Φ s F π ((L.set i1 true).set i2 true) ((d2, .agg #[.slice A (kid tr i).length c, .int .i64 (wor tr i)]) :: (d1, p) :: ρ)) : OrdA P n ds all k Φ s F ((i1, 1) :: (i2, 2) :: π) L ρ := by
  obtain ⟨a, c, A', c', rfl, hsl, hcell⟩ := htr.at_ h0 hi
  exact OrdA.pure e1 hd1 hg1 hc1 (fun w => EV.idx h1 ht hs hx hy h0 hi) (OrdA.read e2 hd2 (hg2 _) hc2 (fun w hw => EV.ld2 h2 ha hs' (ev_top _ _ _) (hcell w (hF w hw)).1 (hcell w (hF w hw)).2) (hk _ _ _ hsl))
theorem _root_.Go.Proofs.Ytdiljpnfochndaa.VW.Ord.rdK {i1 i2 i3 d1 d2 d3 t s' t' : Nat} {o1 o2 o3 : Oper} {x y : Operand} {v : Value} {i : Int} {tr : List Nd} {w0 : World} {c1 c2 c3 : Bool}
    (e1 : all[i1]? = some o1) (h1 : o1.op = .indexAddr t x y) (hd1 : o1.dst = some d1) (hg1 : gdB all ρ o1.guard = some c1) (hc1 : c1 = true) (e2 : all[i2]? = some o2) (h2 : o2.op = .fieldAddr s' (.tmp d1) 0) (hd2 : o2.dst = some d2) (hg2 : ∀ p, gdB all ((d1, .pointer p) :: ρ) o2.guard = some c2) (hc2 : c2 = true)
    (e3 : all[i3]? = some o3) (h3 : o3.op = .load t' (.tmp d2)) (hd3 : o3.dst = some d3) (hg3 : ∀ p q, gdB all ((d2, .pointer q) :: (d1, .pointer p) :: ρ) o3.guard = some c3) (hc3 : c3 = true)
    (ht : tyD P t = some (.slice s')) (hs : tyS P s' = some 2) (hf : fieldOff P s' 0 = some (0, 1)) (ha : tyAgg P t' = some false) (hx : ev ρ x = some v) (hy : ev ρ y = some (.int .i64 i)) (htr : TreeM w0 v tr) (hF : ∀ w, F w → Below w0.heap.size w0 w) (h0 : 0 ≤ i) (hi : i < tr.length)
    (hΦ : ∀ c ρ w, ¬ Φ (.panic c) ρ w) (hk : ∀ A c p q, SlI w0 (.slice A (kid tr i).length c) (kid tr i) → VW.Ord P n ds all k Φ s F π (((L.set i1 true).set i2 true).set i3 true) ((d3, .slice A (kid tr i).length c) :: (d2, q) :: (d1, p) :: ρ) w) : VW.Ord P n ds all k Φ s F ((i1, 1) :: (i2, 1) :: (i3, 2) :: π) L ρ w := by
  obtain ⟨a, c, A', c', rfl, hsl, hcell⟩ := htr.at_ h0 hi
  refine VW.Ord.pure e1 hd1 hg1 hc1 hΦ (fun w => EV.idx h1 ht hs hx hy h0 hi) (VW.Ord.pure e2 hd2 (hg2 _) hc2 hΦ (fun w => EV.fld h2 hf (ev_top _ _ _)) ?_)
  rw [add_zero']
  exact VW.Ord.read' e3 hd3 (hg3 _ _) hc3 hΦ (fun w hw => EV.ld h3 ha (ev_top _ _ _) (hcell w (hF w hw)).1) (hk _ _ _ _ hsl)
theorem _root_.Go.Proofs.Ytdiljpnfochndaa.VW.Ord.rdW {i1 i2 i3 d1 d2 d3 t s' t' : Nat} {o1 o2 o3 : Oper} {x y : Operand} {v : Value} {i : Int} {tr : List Nd} {w0 : World} {c1 c2 c3 : Bool}
    (e1 : all[i1]? = some o1) (h1 : o1.op = .indexAddr t x y) (hd1 : o1.dst = some d1) (hg1 : gdB all ρ o1.guard = some c1) (hc1 : c1 = true) (e2 : all[i2]? = some o2) (h2 : o2.op = .fieldAddr s' (.tmp d1) 1) (hd2 : o2.dst = some d2) (hg2 : ∀ p, gdB all ((d1, .pointer p) :: ρ) o2.guard = some c2) (hc2 : c2 = true)
    (e3 : all[i3]? = some o3) (h3 : o3.op = .load t' (.tmp d2)) (hd3 : o3.dst = some d3) (hg3 : ∀ p q, gdB all ((d2, .pointer q) :: (d1, .pointer p) :: ρ) o3.guard = some c3) (hc3 : c3 = true)
    (ht : tyD P t = some (.slice s')) (hs : tyS P s' = some 2) (hf : fieldOff P s' 1 = some (1, 1)) (ha : tyAgg P t' = some false) (hx : ev ρ x = some v) (hy : ev ρ y = some (.int .i64 i)) (htr : TreeM w0 v tr) (hF : ∀ w, F w → Below w0.heap.size w0 w) (h0 : 0 ≤ i) (hi : i < tr.length)
    (hΦ : ∀ c ρ w, ¬ Φ (.panic c) ρ w) (hk : ∀ p q, VW.Ord P n ds all k Φ s F π (((L.set i1 true).set i2 true).set i3 true) ((d3, .int .i64 (wor tr i)) :: (d2, q) :: (d1, p) :: ρ) w) : VW.Ord P n ds all k Φ s F ((i1, 1) :: (i2, 1) :: (i3, 2) :: π) L ρ w := by
  obtain ⟨a, c, A', c', rfl, hsl, hcell⟩ := htr.at_ h0 hi
  exact VW.Ord.pure e1 hd1 hg1 hc1 hΦ (fun w => EV.idx h1 ht hs hx hy h0 hi) (VW.Ord.pure e2 hd2 (hg2 _) hc2 hΦ (fun w => EV.fld h2 hf (ev_top _ _ _)) (VW.Ord.read' e3 hd3 (hg3 _ _) hc3 hΦ (fun w hw => EV.ld h3 ha (ev_top _ _ _) (hcell w (hF w hw)).2) (hk _ _)))
theorem _root_.Go.Proofs.Ytdiljpnfochndaa.VW.Ord.rdN {i1 i2 d1 d2 t s' t' : Nat} {o1 o2 : Oper} {x y : Operand} {v : Value} {i : Int} {tr : List Nd} {w0 : World} {c1 c2 : Bool}
    (e1 : all[i1]? = some o1) (h1 : o1.op = .indexAddr t x y) (hd1 : o1.dst = some d1) (hg1 : gdB all ρ o1.guard = some c1) (hc1 : c1 = true) (e2 : all[i2]? = some o2) (h2 : o2.op = .load t' (.tmp d1)) (hd2 : o2.dst = some d2) (hg2 : ∀ p, gdB all ((d1, .pointer p) :: ρ) o2.guard = some c2) (hc2 : c2 = true)
    (ht : tyD P t = some (.slice s')) (hs : tyS P s' = some 2) (hs' : tyS P t' = some 2) (ha : tyAgg P t' = some true) (hx : ev ρ x = some v) (hy : ev ρ y = some (.int .i64 i)) (htr : TreeM w0 v tr) (hF : ∀ w, F w → Below w0.heap.size w0 w) (h0 : 0 ≤ i) (hi : i < tr.length)
    (hΦ : ∀ c ρ w, ¬ Φ (.panic c) ρ w) (hk : ∀ A c p, SlI w0 (.slice A (kid tr i).length c) (kid tr i) → VW.Ord P n ds all k Φ s F π ((L.set i1 true).set i2 true) ((d2, .agg #[.slice A (kid tr i).length c, .int .i64 (wor tr i)]) :: (d1, p) :: ρ) w) : VW.Ord P n ds all k Φ s F ((i1, 1) :: (i2, 2) :: π) L ρ w := by
  obtain ⟨a, c, A', c', rfl, hsl, hcell⟩ := htr.at_ h0 hi
  exact VW.Ord.pure e1 hd1 hg1 hc1 hΦ (fun w => EV.idx h1 ht hs hx hy h0 hi) (VW.Ord.read' e2 hd2 (hg2 _) hc2 hΦ (fun w hw => EV.ld2 h2 ha hs' (ev_top _ _ _) (hcell w (hF w hw)).1 (hcell w (hF w hw)).2) (hk _ _ _ hsl))
end
end Go.Proofs.Ytdiljpnfochndaa
/- The rules about trees once more, with standing arguments. -/
namespace Go.Proofs.Ytdiljpnfochndaa
open Go Go.RowKit Go.Proofs.Ytdiljpnfochndaa.VW
open Go.Proofs.Ytdiljpnfochndaa.HP (Nd kid wor leafB)
section
variable {P : Program} [hT : Tab P] {n : Nat} {ds : List Deferred} {Φ : Post} {k : List It} {ρ : E} {w : World} {all : Array Oper} {l : List Oper} {md : Option (List Oper)} {s : Nat} {F : World → Prop} {π : List (Nat × Nat)} {L : List Bool}
theorem z_k {o1 o2 o3 : Oper} {d1 d2 d3 t s t' : Nat} {x y : Operand} {v : Value} {i : Int} {tr : List Nd} {w0 : World} {c1 c2 c3 : Bool} (h1 : o1.op = .indexAddr t x y := by exact rfl) (hd1 : o1.dst = some d1 := by exact rfl) (hg1 : gdB all ρ o1.guard = some c1 := by exact rfl) (hc1 : c1 = true := by exact rfl) (h2 : o2.op = .fieldAddr s (.tmp d1) 0 := by exact rfl) (hd2 : o2.dst = some d2 := by exact rfl) (hg2 : ∀ p, gdB all ((d1, .pointer p) :: ρ) o2.guard = some c2 := by exact fun _ => rfl) (hc2 : c2 = true := by exact rfl) (h3 : o3.op = .load t' (.tmp d2) := by exact rfl) (hd3 : o3.dst = some d3 := by exact rfl) (hg3 : ∀ p q, gdB all ((d2, .pointer q) :: (d1, .pointer p) :: ρ) o3.guard = some c3 := by exact fun _ _ => rfl) (hc3 : c3 = true := by exact rfl) (ht : tyD P t = some (.slice s) := by exact rfl) (hs : tyS P s = some 2 := by exact rfl) (hf : fieldOff P s 0 = some (0, 1) := by exact rfl) (ha : tyAgg P t' = some false := by exact rfl) (hx : ev ρ x = some v := by exact rfl) (hy : ev ρ y = some (.int .i64 i) := by exact rfl) (htr : TreeM w0 v tr := by assumption) (hbel : Below w0.heap.size w0 w := by first | assumption | exact Below.refl _ _) (h0 : 0 ≤ i := by omega) (hi : i < tr.length := by omega) (kk : ∀ A c p q, SlI w0 (.slice A (kid tr i).length c) (kid tr i) → Ops md P n ds all k Φ l ((d3, .slice A (kid tr i).length c) :: (d2, q) :: (d1, p) :: ρ) w) : Ops md P n ds all k Φ (o1 :: o2 :: o3 :: l) ρ w := Ops.rdKB h1 hd1 hg1 hc1 h2 hd2 hg2 hc2 h3 hd3 hg3 hc3 ht hs hf ha hx hy htr hbel h0 hi kk
theorem z_w {o1 o2 o3 : Oper} {d1 d2 d3 t s t' : Nat} {x y : Operand} {v : Value} {i : Int} {tr : List Nd} {w0 : World} {c1 c2 c3 : Bool} (h1 : o1.op = .indexAddr t x y := by exact rfl) (hd1 : o1.dst = some d1 := by exact rfl) (hg1 : gdB all ρ o1.guard = some c1 := by exact rfl) (hc1 : c1 = true := by exact rfl) (h2 : o2.op = .fieldAddr s (.tmp d1) 1 := by exact rfl) (hd2 : o2.dst = some d2 := by exact rfl) (hg2 : ∀ p, gdB all ((d1, .pointer p) :: ρ) o2.guard = some c2 := by exact fun _ => rfl) (hc2 : c2 = true := by exact rfl) (h3 : o3.op = .load t' (.tmp d2) := by exact rfl) (hd3 : o3.dst = some d3 := by exact rfl) (hg3 : ∀ p q, gdB all ((d2, .pointer q) :: (d1, .pointer p) :: ρ) o3.guard = some c3 := by exact fun _ _ => rfl) (hc3 : c3 = true := by exact rfl) (ht : tyD P t = some (.slice s) := by exact rfl) (hs : tyS P s = some 2 := by exact rfl) (hf : fieldOff P s 1 = some (1, 1) := by exact rfl) (ha : tyAgg P t' = some false := by exact rfl) (hx : ev ρ x = some v := by exact rfl) (hy : ev ρ y = some (.int .i64 i) := by exact rfl) (htr : TreeM w0 v tr := by assumption) (hbel : Below w0.heap.size w0 w := by first | assumption | exact Below.refl _ _) (h0 : 0 ≤ i := by omega) (hi : i < tr.length := by omega) (kk : ∀ p q, Ops md P n ds all k Φ l ((d3, .int .i64 (wor tr i)) :: (d2, q) :: (d1, p) :: ρ) w) : Ops md P n ds all k Φ (o1 :: o2 :: o3 :: l) ρ w := Ops.rdWB h1 hd1 hg1 hc1 h2 hd2 hg2 hc2 h3 hd3 hg3 hc3 ht hs hf ha hx hy htr hbel h0 hi kk
theorem z_s {o1 o2 : Oper} {d1 d2 t s t' : Nat} {x y : Operand} {v : Value} {i : Int} {tr : List Nd} {w0 : World} {c1 c2 : Bool} (h1 : o1.op = .indexAddr t x y := by exact rfl) (hd1 : o1.dst = some d1 := by exact rfl) (hg1 : gdB all ρ o1.guard = some c1 := by exact rfl) (hc1 : c1 = true := by exact rfl) (h2 : o2.op = .load t' (.tmp d1) := by exact rfl) (hd2 : o2.dst = some d2 := by exact rfl) (hg2 : ∀ p, gdB all ((d1, .pointer p) :: ρ) o2.guard = some c2 := by exact fun _ => rfl) (hc2 : c2 = true := by exact rfl) (ht : tyD P t = some (.slice s) := by exact rfl) (hs : tyS P s = some 2 := by exact rfl) (hs' : tyS P t' = some 2 := by exact rfl) (ha : tyAgg P t' = some true := by exact rfl) (hx : ev ρ x = some v := by exact rfl) (hy : ev ρ y = some (.int .i64 i) := by exact rfl) (htr : TreeM w0 v tr := by assumption) (hbel : Below w0.heap.size w0 w := by first | assumption | exact Below.refl _ _) (h0 : 0 ≤ i := by omega) (hi : i < tr.length := by omega) (kk : ∀ A c p, SlI w0 (.slice A (kid tr i).length c) (kid tr i) → Ops md P n ds all k Φ l ((d2, .agg #[.slice A (kid tr i).length c, .int .i64 (wor tr i)]) :: (d1, p) :: ρ) w) : Ops md P n ds all k Φ (o1 :: o2 :: l) ρ w := Ops.rdNB h1 hd1 hg1 hc1 h2 hd2 hg2 hc2 ht hs hs' ha hx hy htr hbel h0 hi kk
theorem x_k {i1 i2 i3 d1 d2 d3 t s' t' : Nat} {o1 o2 o3 : Oper} {x y : Operand} {v : Value} {i : Int} {tr : List Nd} {w0 : World} {c1 c2 c3 : Bool} (e1 : all[i1]? = some o1 := by exact rfl) (h1 : o1.op = .indexAddr t x y := by exact rfl) (hd1 : o1.dst = some d1 := by exact rfl) (hg1 : gdB all ρ o1.guard = some c1 := by exact rfl) (hc1 : c1 = true := by exact rfl) (e2 : all[i2]? = some o2 := by exact rfl) (h2 : o2.op = .fieldAddr s' (.tmp d1) 0 := by exact rfl) (hd2 : o2.dst = some d2 := by exact rfl) (hg2 : ∀ p, gdB all ((d1, .pointer p) :: ρ) o2.guard = some c2 := by exact fun _ => rfl) (hc2 : c2 = true := by exact rfl) (e3 : all[i3]? = some o3 := by exact rfl) (h3 : o3.op = .load t' (.tmp d2) := by exact rfl) (hd3 : o3.dst = some d3 := by exact rfl) (hg3 : ∀ p q, gdB all ((d2, .pointer q) :: (d1, .pointer p) :: ρ) o3.guard = some c3 := by exact fun _ _ => rfl) (hc3 : c3 = true := by exact rfl) (ht : tyD P t = some (.slice s') := by exact rfl) (hs : tyS P s' = some 2 := by exact rfl) (hf : fieldOff P s' 0 = some (0, 1) := by exact rfl) (ha : tyAgg P t' = some false := by exact rfl) (hx : ev ρ x = some v := by exact rfl) (hy : ev ρ y = some (.int .i64 i) := by exact rfl) (htr : TreeM w0 v tr := by assumption) (hF : ∀ w, F w → Below w0.heap.size w0 w := by first | exact fun _ h => h | (intro _ h; exact Below.via (by assumption) h)) (h0 : 0 ≤ i := by omega) (hi : i < tr.length := by omega) (kk : ∀ A c p q, SlI w0 (.slice A (kid tr i).length c) (kid tr i) → OrdA P n ds all k Φ s F π (((L.set i1 true).set i2 true).set i3 true) ((d3, .slice A (kid tr i).length c) :: (d2, q) :: (d1, p) :: ρ)) : OrdA P n ds all k Φ s F ((i1, 1) :: (i2, 1) :: (i3, 2) :: π) L ρ := OrdA.rdK e1 h1 hd1 hg1 hc1 e2 h2 hd2 hg2 hc2 e3 h3 hd3 hg3 hc3 ht hs hf ha hx hy htr hF h0 hi kk
theorem x_w {i1 i2 i3 d1 d2 d3 t s' t' : Nat} {o1 o2 o3 : Oper} {x y : Operand} {v : Value} {i : Int} {tr : List Nd} {w0 : World} {c1 c2 c3 : Bool} (e1 : all[i1]? = some o1 := by exact rfl) (h1 : o1.op = .indexAddr t x y := by exact rfl) (hd1 : o1.dst = some d1 := by exact rfl) (hg1 : gdB all ρ o1.guard = some c1 := by exact rfl) (hc1 : c1 = true := by exact rfl) (e2 : all[i2]? = some o2 := by exact rfl) (h2 : o2.op = .fieldAddr s' (.tmp d1) 1 := by exact rfl) (hd2 : o2.dst = some d2 := by exact rfl) (hg2 : ∀ p, gdB all ((d1, .pointer p) :: ρ) o2.guard = some c2 := by exact fun _ => rfl) (hc2 : c2 = true := by exact rfl) (e3 : all[i3]? = some o3 := by exact rfl) (h3 : o3.op = .load t' (.tmp d2) := by exact rfl) (hd3 : o3.dst = some d3 := by exact rfl) (hg3 : ∀ p q, gdB all ((d2, .pointer q) :: (d1, .pointer p) :: ρ) o3.guard = some c3 := by exact fun _ _ => rfl) (hc3 : c3 = true := by exact rfl) (ht : tyD P t = some (.slice s') := by exact rfl) (hs : tyS P s' = some 2 := by exact rfl) (hf : fieldOff P s' 1 = some (1, 1) := by exact rfl) (ha : tyAgg P t' = some false := by exact rfl) (hx : ev ρ x = some v := by exact rfl) (hy : ev ρ y = some (.int .i64 i) := by exact rfl) (htr : TreeM w0 v tr := by assumption) (hF : ∀ w, F w → Below w0.heap.size w0 w := by first | exact fun _ h => h | (intro _ h; exact Below.via (by assumption) h)) (h0 : 0 ≤ i := by omega) (hi : i < tr.length := by omega) (kk : ∀ p q, OrdA P n ds all k Φ s F π (((L.set i1 true).set i2 true).set i3 true) ((d3, .int .i64 (wor tr i)) :: (d2, q) :: (d1, p) :: ρ)) : OrdA P n ds all k Φ s F ((i1, 1) :: (i2, 1) :: (i3, 2) :: π) L ρ := OrdA.rdW e1 h1 hd1 hg1 hc1 e2 h2 hd2 hg2 hc2 e3 h3 hd3 hg3 hc3 ht hs hf ha hx hy htr hF h0 hi kk
theorem x_s {i1 i2 d1 d2 t s' t' : Nat} {o1 o2 : Oper} {x y : Operand} {v : Value} {i : Int} {tr : List Nd} {w0 : World} {c1 c2 : Bool} (e1 : all[i1]? = some o1 := by exact rfl) (h1 : o1.op = .indexAddr t x y := by exact rfl) (hd1 : o1.dst = some d1 := by exact rfl) (hg1 : gdB all ρ o1.guard = some c1 := by exact rfl) (hc1 : c1 = true := by exact rfl) (e2 : all[i2]? = some o2 := by exact rfl) (h2 : o2.op = .load t' (.tmp d1) := by exact rfl) (hd2 : o2.dst = some d2 := by exact rfl) (hg2 : ∀ p, gdB all ((d1, .pointer p) :: ρ) o2.guard = some c2 := by exact fun _ => rfl) (hc2 : c2 = true := by exact rfl) (ht : tyD P t = some (.slice s') := by exact rfl) (hs : tyS P s' = some 2 := by exact rfl) (hs' : tyS P t' = some 2 := by exact rfl) (ha : tyAgg P t' = some true := by exact rfl) (hx : ev ρ x = some v := by exact rfl) (hy : ev ρ y = some (.int .i64 i) := by exact rfl) (htr : TreeM w0 v tr := by assumption) (hF : ∀ w, F w → Below w0.heap.size w0 w := by first | exact fun _ h => h | (intro _ h; exact Below.via (by assumption) h)) (h0 : 0 ≤ i := by omega) (hi : i < tr.length := by omega) (kk : ∀ A c p, SlI w0 (.slice A (kid tr i).length c) (kid tr i) → OrdA P n ds all k Φ s F π ((L.set i1 true).set i2 true) ((d2, .agg #[.slice A (kid tr i).length c, .int .i64 (wor tr i)]) :: (d1, p) :: ρ)) : OrdA P n ds all k Φ s F ((i1, 1) :: (i2, 2) :: π) L ρ := OrdA.rdN e1 h1 hd1 hg1 hc1 e2 h2 hd2 hg2 hc2 ht hs hs' ha hx hy htr hF h0 hi kk
theorem y_k {i1 i2 i3 d1 d2 d3 t s' t' : Nat} {o1 o2 o3 : Oper} {x y : Operand} {v : Value} {i : Int} {tr : List Nd} {w0 : World} {c1 c2 c3 : Bool} (e1 : all[i1]? = some o1 := by exact rfl) (h1 : o1.op = .indexAddr t x y := by exact rfl) (hd1 : o1.dst = some d1 := by exact rfl) (hg1 : gdB all ρ o1.guard = some c1 := by exact rfl) (hc1 : c1 = true := by exact rfl) (e2 : all[i2]? = some o2 := by exact rfl) (h2 : o2.op = .fieldAddr s' (.tmp d1) 0 := by exact rfl) (hd2 : o2.dst = some d2 := by exact rfl) (hg2 : ∀ p, gdB all ((d1, .pointer p) :: ρ) o2.guard = some c2 := by exact fun _ => rfl) (hc2 : c2 = true := by exact rfl) (e3 : all[i3]? = some o3 := by exact rfl) (h3 : o3.op = .load t' (.tmp d2) := by exact rfl) (hd3 : o3.dst = some d3 := by exact rfl) (hg3 : ∀ p q, gdB all ((d2, .pointer q) :: (d1, .pointer p) :: ρ) o3.guard = some c3 := by exact fun _ _ => rfl) (hc3 : c3 = true := by exact rfl) (ht : tyD P t = some (.slice s') := by exact rfl) (hs : tyS P s' = some 2 := by exact rfl) (hf : fieldOff P s' 0 = some (0, 1) := by exact rfl) (ha : tyAgg P t' = some false := by exact rfl) (hx : ev ρ x = some v := by exact rfl) (hy : ev ρ y = some (.int .i64 i) := by exact rfl) (htr : TreeM w0 v tr := by assumption) (hF : ∀ w, F w → Below w0.heap.size w0 w := by first | exact fun _ h => h | (intro _ h; exact Below.via (by assumption) h)) (h0 : 0 ≤ i := by omega) (hi : i < tr.length := by omega) (hΦ : ∀ c ρ w, ¬ Φ (.panic c) ρ w := by exact fun _ _ _ h => h) (kk : ∀ A c p q, SlI w0 (.slice A (kid tr i).length c) (kid tr i) → VW.Ord P n ds all k Φ s F π (((L.set i1 true).set i2 true).set i3 true) ((d3, .slice A (kid tr i).length c) :: (d2, q) :: (d1, p) :: ρ) w) : VW.Ord P n ds all k Φ s F ((i1, 1) :: (i2, 1) :: (i3, 2) :: π) L ρ w := VW.Ord.rdK e1 h1 hd1 hg1 hc1 e2 h2 hd2 hg2 hc2 e3 h3 hd3 hg3 hc3 ht hs hf ha hx hy htr hF h0 hi hΦ kk
theorem y_w {i1 i2 i3 d1 d2 d3 t s' t' : Nat} {o1 o2 o3 : Oper} {x y : Operand} {v : Value} {i : Int} {tr : List Nd} {w0 : World} {c1 c2 c3 : Bool} (e1 : all[i1]? = some o1 := by exact rfl) (h1 : o1.op = .indexAddr t x y := by exact rfl) (hd1 : o1.dst = some d1 := by exact rfl) (hg1 : gdB all ρ o1.guard = some c1 := by exact rfl) (hc1 : c1 = true := by exact rfl) (e2 : all[i2]? = some o2 := by exact rfl) (h2 : o2.op = .fieldAddr s' (.tmp d1) 1 := by exact rfl) (hd2 : o2.dst = some d2 := by exact rfl) (hg2 : ∀ p, gdB all ((d1, .pointer p) :: ρ) o2.guard = some c2 := by exact fun _ => rfl) (hc2 : c2 = true := by exact rfl) (e3 : all[i3]? = some o3 := by exact rfl) (h3 : o3.op = .load t' (.tmp d2) := by exact rfl) (hd3 : o3.dst = some d3 := by exact rfl) (hg3 : ∀ p q, gdB all ((d2, .pointer q) :: (d1, .pointer p) :: ρ) o3.guard = some c3 := by exact fun _ _ => rfl) (hc3 : c3 = true := by exact rfl) (ht : tyD P t = some (.slice s') := by exact rfl) (hs : tyS P s' = some 2 := by exact rfl) (hf : fieldOff P s' 1 = some (1, 1) := by exact rfl) (ha : tyAgg P t' = some false := by exact rfl) (hx : ev ρ x = some v := by exact rfl) (hy : ev ρ y = some (.int .i64 i) := by exact rfl) (htr : TreeM w0 v tr := by assumption) (hF : ∀ w, F w → Below w0.heap.size w0 w := by first | exact fun _ h => h | (intro _ h; exact Below.via (by assumption) h)) (h0 : 0 ≤ i := by omega) (hi : i < tr.length := by omega) (hΦ : ∀ c ρ w, ¬ Φ (.panic c) ρ w := by exact fun _ _ _ h => h) (kk : ∀ p q, VW.Ord P n ds all k Φ s F π (((L.set i1 true).set i2 true).set i3 true) ((d3, .int .i64 (wor tr i)) :: (d2, q) :: (d1, p) :: ρ) w) : VW.Ord P n ds all k Φ s F ((i1, 1) :: (i2, 1) :: (i3, 2) :: π) L ρ w := VW.Ord.rdW e1 h1 hd1 hg1 hc1 e2 h2 hd2 hg2 hc2 e3 h3 hd3 hg3 hc3 ht hs hf ha hx hy htr hF h0 hi hΦ kk
theorem y_s {i1 i2 d1 d2 t s' t' : Nat} {o1 o2 : Oper} {x y : Operand} {v : Value} {i : Int} {tr : List Nd} {w0 : World} {c1 c2 : Bool} (e1 : all[i1]? = some o1 := by exact rfl) (h1 : o1.op = .indexAddr t x y := by exact rfl) (hd1 : o1.dst = some d1 := by exact rfl) (hg1 : gdB all ρ o1.guard = some c1 := by exact rfl) (hc1 : c1 = true := by exact rfl) (e2 : all[i2]? = some o2 := by exact rfl) (h2 : o2.op = .load t' (.tmp d1) := by exact rfl) (hd2 : o2.dst = some d2 := by exact rfl) (hg2 : ∀ p, gdB all ((d1, .pointer p) :: ρ) o2.guard = some c2 := by exact fun _ => rfl) (hc2 : c2 = true := by exact rfl) (ht : tyD P t = some (.slice s') := by exact rfl) (hs : tyS P s' = some 2 := by exact rfl) (hs' : tyS P t' = some 2 := by exact rfl) (ha : tyAgg P t' = some true := by exact rfl) (hx : ev ρ x = some v := by exact rfl) (hy : ev ρ y = some (.int .i64 i) := by exact rfl) (htr : TreeM w0 v tr := by assumption) (hF : ∀ w, F w → Below w0.heap.size w0 w := by first | exact fun _ h => h | (intro _ h; exact Below.via (by assumption) h)) (h0 : 0 ≤ i := by omega) (hi : i < tr.length := by omega) (hΦ : ∀ c ρ w, ¬ Φ (.panic c) ρ w := by exact fun _ _ _ h => h) (kk : ∀ A c p, SlI w0 (.slice A (kid tr i).length c) (kid tr i) → VW.Ord P n ds all k Φ s F π ((L.set i1 true).set i2 true) ((d2, .agg #[.slice A (kid tr i).length c, .int .i64 (wor tr i)]) :: (d1, p) :: ρ) w) : VW.Ord P n ds all k Φ s F ((i1, 1) :: (i2, 2) :: π) L ρ w := VW.Ord.rdN e1 h1 hd1 hg1 hc1 e2 h2 hd2 hg2 hc2 ht hs hs' ha hx hy htr hF h0 hi hΦ kk
end
end Go.Proofs.Ytdiljpnfochndaa
namespace Go.Proofs.Ytdiljpnfochndaa
open Go Go.RowKit Go.Proofs.Ytdiljpnfochndaa.VW
open Go.Proofs.Ytdiljpnfochndaa.HP (Nd kid wor leafB rd evB gameOf gameOf_TF ValP far TF Dn k_)
attribute [local irreducible] W Ops OrdA VW.Ord
theorem leaf_c {w : World} {v : Value} {xs : List Int} {z : Value} (hv : SlI w v xs) (hz : z.oneCell' = true) : Calls Try.prog 64 #[.agg #[v, z]] w (Ret fun r w' => r = .bool ((xs.length : Int) == 0) ∧ Below w.heap.size w w') := by
  obtain ⟨A, c, rfl⟩ := Sl.sl hv
  refine calls_W (vs := [_]) Try.func64 rfl (by kernel_rfl) rfl ?_
  (repeat (first | with_reducible refine W.seq ?_ | with_reducible refine W.region ?_))
  refine Ops.box rfl rfl rfl rfl (fun w1 b hM => ?_)
  have hB : Blk w1 b #[.slice A xs.length c, z] 47 := hM.at_
  (repeat (first | with_reducible refine W.seq ?_ | with_reducible refine Ops.nil ?_ | with_reducible refine W.region ?_ | refine z_p (kk := ?_) | refine z_l (kk := ?_) | refine z_f (kk := ?_) | refine z_d (kk := ?_)))
  exact W.fret rfl ⟨rfl, hM.kp.below (Nat.le_refl _) (fun _ _ e => e)⟩
set_option maxHeartbeats 2000000 in
theorem listed_c {w : World} {v sv : Value} {l : List Nd} {xs : List Int} (hTr : TreeM w v l) (hn : l.length ≤ 60) (hs : SlI w sv xs) :
    Calls Try.prog 24 #[v, sv] w (Ret fun r w' => r = .bool (decide (Listed l xs)) ∧ Below w.heap.size w w') := by
  obtain ⟨At, ct, rfl⟩ := hTr.sl
  have hxl := Sl.len hs
  obtain ⟨As, cs, rfl⟩ := Sl.sl hs
  refine calls_W (vs := [_, _]) Try.func24 rfl (by kernel_rfl) rfl ?_
  (repeat (first | with_reducible refine W.seq ?_ | with_reducible refine Ops.nil ?_ | with_reducible refine W.region ?_ | refine z_p (kk := ?_) | with_reducible refine W.block ?_))
  refine W.loop (fun m ρ w3 => ∃ j : Nat, m = xs.length - j ∧ j ≤ xs.length ∧ ρ = [(0, .slice At l.length ct), (1, .slice As xs.length cs), (5, .int .i64 j)] ∧ Below w.heap.size w w3 ∧ ∀ k, k < j → okAt l xs k)
    ⟨_, _, ⟨0, rfl, Nat.zero_le _, rfl, Below.refl _ _, fun k hk => by omega⟩, (by repeat (first | exact trivial | refine And.intro rfl ?_))⟩ ?_
  rintro m ρ w3 ⟨j, rfl, hj, rfl, hb3, hok⟩
  (repeat (first | with_reducible refine W.seq ?_ | with_reducible refine Ops.nil ?_ | with_reducible refine W.region ?_ | refine z_p (kk := ?_) | refine z_l (kk := ?_)))
  (first | refine W.condD rfl (fun hc => ?_) (fun hc => ?_) | refine W.condE rfl (fun hc => ?_) (fun hc => ?_) | refine W.condN rfl (fun hc => ?_) (fun hc => ?_) | refine W.cond rfl (fun hc => ?_) (fun hc => ?_))
  · have hlt : j < xs.length := by omega
    (repeat (first | with_reducible refine W.seq ?_ | with_reducible refine W.skip ?_ | with_reducible refine W.block ?_))
    by_cases hok1 : okAt l xs j
    · have hok1' := hok1
      obtain ⟨q1, q2, q3, q4⟩ := hok1'
      have q3' : (kid l (xs.getD j 0)).length = 0 := by simpa [leafB] using q3
      have q5 : 0 < j → xs.getD ((j : Int) - 1).toNat 0 < xs.getD j 0 := fun h => by have := q4 h; rwa [show ((j : Int) - 1).toNat = j - 1 by omega]
      refine W.ordA 99 [(0, 1), (1, 1), (2, 1), (3, 2), (4, 1), (5, 1), (6, 1), (7, 1), (8, 1), (9, 2), (10, 1), (11, 1), (12, 1), (13, 1), (14, 1), (15, 1), (16, 1), (17, 1), (18, 1), (19, 2), (20, 1), (21, 2), (22, 2), (23, 1), (24, 1), (25, 1), (26, 1), (27, 1), (28, 1), (29, 1), (30, 1), (31, 1), (32, 1), (33, 2), (34, 1), (35, 1), (36, 1), (37, 2), (38, 1), (39, 1), (40, 1)] rfl (by kernel_rfl) rfl (by kernel_rfl) (fun _ _ _ h => h) ?_
      by_cases hj0 : 0 < j
      · have := q5 hj0
        (repeat (first | refine x_p (kk := ?_) | refine x_a (kk := ?_) | refine x_l (kk := ?_) | refine x_I (kk := fun _ => ?_) | refine x_K (kk := fun _ => ?_) | refine x_s (kk := fun _ _ _ _ => ?_) | refine OrdA.call rfl rfl rfl rfl rfl rfl rfl (fun w' hw' => Calls.via hw' (leaf_c (Sl.below (by assumption) (Below.via (by assumption) hw')) rfl)) ?_ | refine x_t (kk := ?_) | refine x_f (kk := ?_)))
        refine OrdA.nil (fun w6 hb6 => ?_)
        refine W.condF rfl (by first | rfl | assumption | (simp only [bnf] <;> omega) | (simp only [*, bnf]; done) | fail) ?_
        (repeat (first | with_reducible refine Ops.nil ?_ | with_reducible refine W.region ?_ | refine z_p (kk := ?_) | refine z_a (kk := ?_) | with_reducible refine W.skip ?_ | with_reducible refine W.endb ?_))
        exact W.endl ⟨_, _, ⟨⟨j + 1, rfl, by omega, rfl, Below.via hb3 hb6, fun k hk => by rcases Nat.lt_succ_iff_lt_or_eq.1 hk with h | rfl; exact hok k h; exact hok1⟩, by omega⟩, (by repeat (first | exact trivial | refine And.intro rfl ?_))⟩
      · (repeat (first | refine x_p (kk := ?_) | refine x_n (kk := ?_) | refine x_l (kk := ?_) | refine x_I (kk := fun _ => ?_) | refine x_s (kk := fun _ _ _ _ => ?_) | refine OrdA.call rfl rfl rfl rfl rfl rfl rfl (fun w' hw' => Calls.via hw' (leaf_c (Sl.below (by assumption) (Below.via (by assumption) hw')) rfl)) ?_ | refine x_f (kk := ?_)))
        refine OrdA.nil (fun w6 hb6 => ?_)
        refine W.condF rfl (by first | rfl | assumption | (simp only [bnf] <;> omega) | (simp only [*, bnf]; done) | fail) ?_
        (repeat (first | with_reducible refine Ops.nil ?_ | with_reducible refine W.region ?_ | refine z_p (kk := ?_) | refine z_a (kk := ?_) | with_reducible refine W.skip ?_ | with_reducible refine W.endb ?_))
        exact W.endl ⟨_, _, ⟨⟨j + 1, rfl, by omega, rfl, Below.via hb3 hb6, fun k hk => by rcases Nat.lt_succ_iff_lt_or_eq.1 hk with h | rfl; exact hok k h; exact hok1⟩, by omega⟩, (by repeat (first | exact trivial | refine And.intro rfl ?_))⟩
    · have hno : decide (Listed l xs) = false := decide_eq_false fun h => hok1 (h j hlt)
      refine W.ordA 99 [(0, 1), (1, 1), (2, 1), (3, 2), (4, 1), (5, 1), (6, 1), (7, 1), (8, 1), (9, 2), (10, 1), (11, 1), (12, 1), (13, 1), (14, 1), (15, 1), (16, 1), (17, 1), (18, 1), (19, 2), (20, 1), (21, 2), (22, 2), (23, 1), (24, 1), (25, 1), (26, 1), (27, 1), (28, 1), (29, 1), (30, 1), (31, 1), (32, 1), (33, 2), (34, 1), (35, 1), (36, 1), (37, 2), (38, 1), (39, 1), (40, 1)] rfl (by kernel_rfl) rfl (by kernel_rfl) (fun _ _ _ h => h) ?_
      by_cases q1 : xs.getD j 0 < 0
      · (repeat (first | refine x_p (kk := ?_) | refine x_n (kk := ?_) | refine x_I (kk := fun _ => ?_) | refine x_t (kk := ?_)))
        refine OrdA.nil (fun w6 hb6 => ?_)
        refine W.condT rfl (by first | rfl | assumption | (simp only [bnf] <;> omega) | (simp only [*, bnf]; done) | fail) ?_
        (repeat (first | with_reducible refine W.seq ?_ | with_reducible refine Ops.nil ?_ | with_reducible refine W.region ?_ | refine z_p (kk := ?_)))
        exact W.fret rfl ⟨by rw [hno]; rfl, Below.via hb3 hb6⟩
      · by_cases q2 : xs.getD j 0 ≤ l.length - 1
        · by_cases q3 : (kid l (xs.getD j 0)).length = 0
          · have q3' : leafB l (xs.getD j 0) = true := by simpa [leafB] using q3
            have q4 : 0 < j ∧ xs.getD j 0 ≤ xs.getD (j - 1) 0 := by
              refine Classical.byContradiction fun h => hok1 ⟨by omega, by omega, q3', fun h0 => by omega⟩
            have q5 : xs.getD j 0 ≤ xs.getD ((j : Int) - 1).toNat 0 := by rw [show ((j : Int) - 1).toNat = j - 1 by omega]; exact q4.2
            have q6 := q4.1
            (repeat (first | refine x_p (kk := ?_) | refine x_a (kk := ?_) | refine x_l (kk := ?_) | refine x_I (kk := fun _ => ?_) | refine x_K (kk := fun _ => ?_) | refine x_s (kk := fun _ _ _ _ => ?_) | refine OrdA.call rfl rfl rfl rfl rfl rfl rfl (fun w' hw' => Calls.via hw' (leaf_c (Sl.below (by assumption) (Below.via (by assumption) hw')) rfl)) ?_ | refine x_t (kk := ?_) | refine x_f (kk := ?_)))
            refine OrdA.nil (fun w6 hb6 => ?_)
            refine W.condT rfl (by first | rfl | assumption | (simp only [bnf] <;> omega) | (simp only [*, bnf]; done) | fail) ?_
            (repeat (first | with_reducible refine W.seq ?_ | with_reducible refine Ops.nil ?_ | with_reducible refine W.region ?_ | refine z_p (kk := ?_)))
            exact W.fret rfl ⟨by rw [hno]; rfl, Below.via hb3 hb6⟩
          · (repeat (first | refine x_p (kk := ?_) | refine x_n (kk := ?_) | refine x_l (kk := ?_) | refine x_I (kk := fun _ => ?_) | refine x_s (kk := fun _ _ _ _ => ?_) | refine OrdA.call rfl rfl rfl rfl rfl rfl rfl (fun w' hw' => Calls.via hw' (leaf_c (Sl.below (by assumption) (Below.via (by assumption) hw')) rfl)) ?_ | refine x_t (kk := ?_) | refine x_f (kk := ?_)))
            refine OrdA.nil (fun w6 hb6 => ?_)
            refine W.condT rfl (by first | rfl | assumption | (simp only [bnf] <;> omega) | (simp only [*, bnf]; done) | fail) ?_
            (repeat (first | with_reducible refine W.seq ?_ | with_reducible refine Ops.nil ?_ | with_reducible refine W.region ?_ | refine z_p (kk := ?_)))
            exact W.fret rfl ⟨by rw [hno]; rfl, Below.via hb3 hb6⟩
        · (repeat (first | refine x_p (kk := ?_) | refine x_n (kk := ?_) | refine x_l (kk := ?_) | refine x_I (kk := fun _ => ?_) | refine x_t (kk := ?_) | refine x_f (kk := ?_)))
          refine OrdA.nil (fun w6 hb6 => ?_)
          refine W.condT rfl (by first | rfl | assumption | (simp only [bnf] <;> omega) | (simp only [*, bnf]; done) | fail) ?_
          (repeat (first | with_reducible refine W.seq ?_ | with_reducible refine Ops.nil ?_ | with_reducible refine W.region ?_ | refine z_p (kk := ?_)))
          exact W.fret rfl ⟨by rw [hno]; rfl, Below.via hb3 hb6⟩
  · have hlt : j = xs.length := by omega
    subst hlt
    (repeat (first | with_reducible refine W.seq ?_ | with_reducible refine Ops.nil ?_ | with_reducible refine W.region ?_ | refine z_p (kk := ?_) | refine W.exit rfl ?_))
    exact W.fret rfl ⟨by rw [decide_eq_true (show Listed l xs from hok)]; rfl, hb3⟩
end Go.Proofs.Ytdiljpnfochndaa
namespace Go.Proofs.Ytdiljpnfochndaa
open Go Go.RowKit Go.Proofs.Ytdiljpnfochndaa.VW
open Go.Proofs.Ytdiljpnfochndaa.HP (Nd kid wor leafB rd evB gameOf gameOf_TF ValP NV far TF Dn k_ maxL minL maxL_take minL_take maxL_one minL_one val_set RNeedP RN rn_set farR sumC)
attribute [local irreducible] W Ops OrdA VW.Ord
theorem getD_map_rd {xs vs : List Int} {j : Nat} (h : j < xs.length) : (xs.map (rd vs)).getD j 0 = rd vs (xs.getD j 0) := by
  simp [List.getD_eq_getElem?_getD, h]
/-- The value of a node behind j children. -/
def acc (l : List Nd) (dep : List Int) (os : List Int) (a0 : Int) (p j : Nat) : Int := if j = 0 then a0 else if evB dep p then maxL (((kid l p).map (rd os)).take j) else minL (((kid l p).map (rd os)).take j)
theorem acc_succ {l : List Nd} {dep os : List Int} {a0 : Int} {p j : Nat} (h : j < (kid l p).length) : acc l dep os a0 p (j + 1) = if j = 0 then rd os ((kid l p).getD j 0) else if evB dep p then max (acc l dep os a0 p j) (rd os ((kid l p).getD j 0)) else min (acc l dep os a0 p j) (rd os ((kid l p).getD j 0)) := by
  have hm : j < ((kid l p).map (rd os)).length := by simpa using h
  rw [← getD_map_rd h]
  unfold acc
  by_cases hj : j = 0
  · subst hj
    simp only [Nat.zero_add, if_true]
    rw [if_neg (by omega)]
    split
    · exact maxL_one _ hm
    · exact minL_one _ hm
  · rw [if_neg (by omega), if_neg hj, if_neg hj]
    split
    · exact maxL_take _ _ (by omega) hm
    · exact minL_take _ _ (by omega) hm
theorem acc_end {l : List Nd} {dep os : List Int} {wf : Int → Int} {p : Nat} : acc l dep os (wf p) p (kid l p).length = NV l dep wf os p := by
  unfold acc NV leafB
  by_cases h : (kid l p).length = 0
  · have h2 : (kid l p).isEmpty = true := by rw [List.length_eq_zero_iff.1 h]; rfl
    rw [if_pos h, if_pos h2]
  · have h2 : (kid l p).isEmpty = false := by cases hk : kid l p with | nil => rw [hk] at h; simp at h | cons a r => rfl
    rw [if_neg h, h2, List.take_of_length_le (by simp)]
    rfl
theorem rd_set_ne {os : List Int} {p : Nat} {x : Int} {c : Int} (h : (p : Int) < c) : rd (os.set p x) c = rd os c := by
  simp only [rd]
  exact Go.Proofs.Ytdiljpnfochndaa.HP.getD_set_ne (by omega)
set_option maxHeartbeats 2000000 in
theorem backed_c {w : World} {v wv : Value} {l : List Nd} {dep ws : List Int} (hTr : TreeM w v l) (hT : TF l dep) (hW : SlI w wv ws) (hwl : ws.length = l.length) :
    Calls Try.prog 63 #[v, wv] w (Ret fun r w' => ∃ vs : List Int, OI 3 (Value.int .i64) w w' r vs ∧ ValP l dep (fun i => ws.getD i.toNat 0) vs) := by
  obtain ⟨At, ct, rfl⟩ := hTr.sl
  obtain ⟨Aw, cw, rfl⟩ := Sl.sl hW
  have hn := hT.n60
  have hn1 := hT.n1
  refine calls_W (vs := [_, _]) Try.func63 rfl (by kernel_rfl) rfl ?_
  (repeat (first | with_reducible refine W.seq ?_ | with_reducible refine Ops.nil ?_ | with_reducible refine W.region ?_ | refine z_p (kk := ?_)))
  refine Ops.call rfl rfl rfl rfl rfl (even_c hTr hT) (fun r w1 hR => ?_)
  obtain ⟨bs, hE, hbl, hbv⟩ := hR
  have hb1 := hE.bel
  have hE1 : SlB w1 r bs := hE.sl
  obtain ⟨Ae, ce, rfl⟩ := Sl.sl hE1
  have hTr1 := hTr.below hb1
  have hW1 := Sl.below hW hb1
  clear hTr hW
  (repeat (first | with_reducible refine W.seq ?_ | with_reducible refine Ops.nil ?_ | with_reducible refine W.region ?_ | refine z_p (kk := ?_) | refine z_l (kk := ?_)))
  refine Ops.mkO (w0 := w1) (Value.int .i64) 0 rfl rfl rfl rfl rfl rfl rfl rfl rfl (by omega) rfl (Below.refl _ _) (fun w2 dr hO2 k2 _ => ?_)
  have hlr : (List.replicate l.length (0 : Int)).length = l.length := by simp
  generalize List.replicate l.length (0 : Int) = os2 at *
  (repeat (first | with_reducible refine W.seq ?_ | with_reducible refine Ops.nil ?_ | with_reducible refine W.region ?_ | refine z_p (kk := ?_) | refine z_a (kk := ?_) | with_reducible refine W.block ?_ | refine z_l (kk := ?_)))
  refine W.loop (fun m ρ w3 => ∃ (q : Nat) (os : List Int), m = q ∧ q ≤ l.length ∧ ρ = [(0, .slice At l.length ct), (1, .slice Aw ws.length cw), (5, .slice Ae bs.length ce), (6, .slice (some ⟨dr, 0, none⟩) l.length l.length), (7, .int .i64 ((q : Int) - 1))] ∧ OI 3 (Value.int .i64) w1 w3 (.slice (some ⟨dr, 0, none⟩) l.length l.length) os ∧ os.length = l.length ∧ ∀ j : Nat, q ≤ j → j < l.length → os.getD j 0 = NV l dep (fun i => ws.getD i.toNat 0) os j)
    ⟨_, _, ⟨l.length, _, rfl, Nat.le_refl _, rfl, hO2, hlr, fun j h1 h2 => by omega⟩, (by repeat (first | exact trivial | refine And.intro rfl ?_))⟩ ?_
  clear hO2 hlr
  rintro m ρ w3 ⟨q, os, hm, hq, rfl, hO, hol, hv⟩
  subst m
  (repeat (first | with_reducible refine W.seq ?_ | with_reducible refine Ops.nil ?_ | with_reducible refine W.region ?_ | refine z_p (kk := ?_)))
  (first | refine W.condD rfl (fun hc => ?_) (fun hc => ?_) | refine W.condE rfl (fun hc => ?_) (fun hc => ?_) | refine W.condN rfl (fun hc => ?_) (fun hc => ?_) | refine W.cond rfl (fun hc => ?_) (fun hc => ?_))
  · obtain ⟨p, rfl⟩ : ∃ p, q = p + 1 := ⟨q - 1, by omega⟩
    have hp : p < l.length := by omega
    have hb3 := hO.bel
    rw [show ((p + 1 : Nat) : Int) - 1 = p by omega]
    have hev := hbv p hp
    (repeat (first | with_reducible refine W.seq ?_ | with_reducible refine W.region ?_ | refine z_p (kk := ?_) | with_reducible refine W.skip ?_ | with_reducible refine W.block ?_ | refine z_I (kk := fun _ => ?_)))
    refine Ops.wrO rfl rfl rfl rfl rfl rfl rfl rfl rfl rfl rfl rfl (by simp) rfl hO (by omega) (fun w4 _ hO4 _ _ => ?_)
    (repeat (first | with_reducible refine W.seq ?_ | with_reducible refine Ops.nil ?_ | with_reducible refine W.region ?_ | refine z_p (kk := ?_) | with_reducible refine W.block ?_))
    refine W.loop (fun m ρ w5 => ∃ (j : Nat) (a : Int), m = (kid l p).length - j ∧ j ≤ (kid l p).length ∧ ρ = [(0, .slice At l.length ct), (1, .slice Aw ws.length cw), (5, .slice Ae bs.length ce), (6, .slice (some ⟨dr, 0, none⟩) l.length l.length), (7, .int .i64 p), (8, .int .i64 j)] ∧ OI 3 (Value.int .i64) w1 w5 (.slice (some ⟨dr, 0, none⟩) l.length l.length) (os.set p a) ∧ a = acc l dep os (ws.getD p 0) p j)
      ⟨_, _, ⟨0, _, rfl, Nat.zero_le _, rfl, hO4, rfl⟩, (by repeat (first | exact trivial | refine And.intro rfl ?_))⟩ ?_
    clear hO4
    rintro m ρ w5 ⟨j, a, rfl, hj, rfl, hO5, ha⟩
    have hb5 := hO5.bel
    have hkl := hT.klen p hp
    have hosl : (os.set p a).length = l.length := by simp [hol]
    have hosp : (os.set p a).getD p 0 = a := Go.Proofs.Ytdiljpnfochndaa.HP.getD_set_eq (by omega)
    (repeat (first | with_reducible refine W.seq ?_ | with_reducible refine Ops.nil ?_ | with_reducible refine W.region ?_ | refine z_p (kk := ?_) | refine z_l (kk := ?_) | refine z_k (kk := fun _ _ _ _ _ => ?_)))
    (first | refine W.condD rfl (fun hc => ?_) (fun hc => ?_) | refine W.condE rfl (fun hc => ?_) (fun hc => ?_) | refine W.condN rfl (fun hc => ?_) (fun hc => ?_) | refine W.cond rfl (fun hc => ?_) (fun hc => ?_))
    · have hjl : j < (kid l p).length := by omega
      have hkin := hT.kin p j hp hjl
      simp only [k_] at hkin
      have hrd := rd_set_ne (os := os) (x := a) hkin.1
      have hacc := acc_succ (dep := dep) (os := os) (a0 := ws.getD p 0) hjl
      have hrd' : (os.set p a).getD ((kid l p).getD j 0).toNat 0 = rd os ((kid l p).getD j 0) := hrd
      by_cases hj0 : j = 0
      · have hx : (os.set p a).getD ((kid l p).getD j 0).toNat 0 = acc l dep os (ws.getD p 0) p (j + 1) := by rw [hacc, if_pos hj0]; exact hrd
        (repeat (first | with_reducible refine W.seq ?_ | with_reducible refine Ops.nil ?_ | with_reducible refine W.region ?_ | refine z_p (kk := ?_) | refine z_n (kk := ?_) | refine z_u (kk := ?_) | with_reducible refine W.skip ?_ | with_reducible refine W.block ?_ | refine z_I (kk := fun _ => ?_) | refine z_K (kk := fun _ => ?_) | refine z_k (kk := fun _ _ _ _ _ => ?_) | refine z_g (kk := ?_)))
        refine W.condT rfl (by first | rfl | assumption | (simp only [bnf] <;> omega) | (simp only [*, bnf]; done) | fail) ?_
        (repeat (first | with_reducible refine W.region ?_ | refine z_p (kk := ?_)))
        refine Ops.wrO rfl rfl rfl rfl rfl rfl rfl rfl rfl rfl rfl rfl (by simp) rfl hO5 (by omega) (fun w6 _ hO6 _ _ => ?_)
        rw [List.set_set] at hO6
        (repeat (first | with_reducible refine Ops.nil ?_ | with_reducible refine W.region ?_ | refine z_p (kk := ?_) | refine z_a (kk := ?_) | with_reducible refine W.endb ?_))
        exact W.endl ⟨_, _, ⟨⟨j + 1, _, rfl, by omega, rfl, hO6, hx⟩, by omega⟩, (by repeat (first | exact trivial | refine And.intro rfl ?_))⟩
      · rw [if_neg hj0] at hacc
        cases hed : evB dep p with
        | true =>
          rw [hed] at hev hacc
          rw [if_pos rfl, ← ha] at hacc
          by_cases hgt : rd os ((kid l p).getD j 0) > a
          · have hx : (os.set p a).getD ((kid l p).getD j 0).toNat 0 = acc l dep os (ws.getD p 0) p (j + 1) := by rw [hacc, hrd']; omega
            (repeat (first | with_reducible refine W.seq ?_ | with_reducible refine Ops.nil ?_ | with_reducible refine W.region ?_ | refine z_p (kk := ?_) | refine z_y (kk := ?_) | refine z_n (kk := ?_) | refine z_u (kk := ?_) | with_reducible refine W.skip ?_ | with_reducible refine W.block ?_ | refine z_I (kk := fun _ => ?_) | refine z_J (kk := fun _ => ?_) | refine z_K (kk := fun _ => ?_) | refine z_k (kk := fun _ _ _ _ _ => ?_) | refine z_g (kk := ?_) | refine z_h (kk := ?_)))
            refine W.condT rfl (by first | rfl | assumption | (simp only [bnf] <;> omega) | (simp only [*, bnf]; done) | fail) ?_
            (repeat (first | with_reducible refine W.region ?_ | refine z_p (kk := ?_)))
            refine Ops.wrO rfl rfl rfl rfl rfl rfl rfl rfl rfl rfl rfl rfl (by simp) rfl hO5 (by omega) (fun w6 _ hO6 _ _ => ?_)
            rw [List.set_set] at hO6
            (repeat (first | with_reducible refine Ops.nil ?_ | with_reducible refine W.region ?_ | refine z_p (kk := ?_) | refine z_a (kk := ?_) | with_reducible refine W.endb ?_))
            exact W.endl ⟨_, _, ⟨⟨j + 1, _, rfl, by omega, rfl, hO6, hx⟩, by omega⟩, (by repeat (first | exact trivial | refine And.intro rfl ?_))⟩
          · have hx : a = acc l dep os (ws.getD p 0) p (j + 1) := by rw [hacc]; omega
            (repeat (first | with_reducible refine W.seq ?_ | with_reducible refine Ops.nil ?_ | with_reducible refine W.region ?_ | refine z_p (kk := ?_) | refine z_y (kk := ?_) | refine z_n (kk := ?_) | with_reducible refine W.skip ?_ | with_reducible refine W.block ?_ | refine z_I (kk := fun _ => ?_) | refine z_J (kk := fun _ => ?_) | refine z_K (kk := fun _ => ?_) | refine z_k (kk := fun _ _ _ _ _ => ?_) | refine z_g (kk := ?_) | refine z_h (kk := ?_)))
            refine W.condF rfl (by first | rfl | assumption | (simp only [bnf] <;> omega) | (simp only [*, bnf]; done) | fail) ?_
            (repeat (first | with_reducible refine Ops.nil ?_ | with_reducible refine W.region ?_ | refine z_p (kk := ?_) | refine z_a (kk := ?_) | with_reducible refine W.skip ?_ | with_reducible refine W.endb ?_))
            exact W.endl ⟨_, _, ⟨⟨j + 1, _, rfl, by omega, rfl, hO5, hx⟩, by omega⟩, (by repeat (first | exact trivial | refine And.intro rfl ?_))⟩
        | false =>
          rw [hed] at hev hacc
          rw [if_neg (by simp), ← ha] at hacc
          by_cases hgt : rd os ((kid l p).getD j 0) < a
          · have hx : (os.set p a).getD ((kid l p).getD j 0).toNat 0 = acc l dep os (ws.getD p 0) p (j + 1) := by rw [hacc, hrd']; omega
            (repeat (first | with_reducible refine W.seq ?_ | with_reducible refine Ops.nil ?_ | with_reducible refine W.region ?_ | refine z_p (kk := ?_) | refine z_y (kk := ?_) | refine z_n (kk := ?_) | with_reducible refine W.skip ?_ | with_reducible refine W.block ?_ | refine z_I (kk := fun _ => ?_) | refine z_J (kk := fun _ => ?_) | refine z_K (kk := fun _ => ?_) | refine z_k (kk := fun _ _ _ _ _ => ?_) | refine z_g (kk := ?_) | refine z_h (kk := ?_)))
            refine W.condT rfl (by first | rfl | assumption | (simp only [bnf] <;> omega) | (simp only [*, bnf]; done) | fail) ?_
            (repeat (first | with_reducible refine W.region ?_ | refine z_p (kk := ?_)))
            refine Ops.wrO rfl rfl rfl rfl rfl rfl rfl rfl rfl rfl rfl rfl (by simp) rfl hO5 (by omega) (fun w6 _ hO6 _ _ => ?_)
            rw [List.set_set] at hO6
            (repeat (first | with_reducible refine Ops.nil ?_ | with_reducible refine W.region ?_ | refine z_p (kk := ?_) | refine z_a (kk := ?_) | with_reducible refine W.endb ?_))
            exact W.endl ⟨_, _, ⟨⟨j + 1, _, rfl, by omega, rfl, hO6, hx⟩, by omega⟩, (by repeat (first | exact trivial | refine And.intro rfl ?_))⟩
          · have hx : a = acc l dep os (ws.getD p 0) p (j + 1) := by rw [hacc]; omega
            (repeat (first | with_reducible refine W.seq ?_ | with_reducible refine Ops.nil ?_ | with_reducible refine W.region ?_ | refine z_p (kk := ?_) | refine z_y (kk := ?_) | refine z_n (kk := ?_) | with_reducible refine W.skip ?_ | with_reducible refine W.block ?_ | refine z_I (kk := fun _ => ?_) | refine z_J (kk := fun _ => ?_) | refine z_K (kk := fun _ => ?_) | refine z_k (kk := fun _ _ _ _ _ => ?_) | refine z_g (kk := ?_) | refine z_h (kk := ?_)))
            refine W.condF rfl (by first | rfl | assumption | (simp only [bnf] <;> omega) | (simp only [*, bnf]; done) | fail) ?_
            (repeat (first | with_reducible refine Ops.nil ?_ | with_reducible refine W.region ?_ | refine z_p (kk := ?_) | refine z_a (kk := ?_) | with_reducible refine W.skip ?_ | with_reducible refine W.endb ?_))
            exact W.endl ⟨_, _, ⟨⟨j + 1, _, rfl, by omega, rfl, hO5, hx⟩, by omega⟩, (by repeat (first | exact trivial | refine And.intro rfl ?_))⟩
    · have hjl : j = (kid l p).length := by omega
      subst hjl
      have hval := val_set hT hp hol (x := a) (ha.trans (acc_end (wf := fun i => ws.getD i.toNat 0))) hv
      (repeat (first | with_reducible refine Ops.nil ?_ | with_reducible refine W.region ?_ | refine z_p (kk := ?_) | refine z_a (kk := ?_) | with_reducible refine W.endb ?_ | refine W.exit rfl ?_))
      refine W.endl ⟨_, _, ⟨⟨p, _, rfl, by omega, rfl, hO5, hosl, hval⟩, by omega⟩, (by repeat (first | exact trivial | refine And.intro rfl ?_))⟩
  · have : q = 0 := by omega
    subst this
    (repeat (first | with_reducible refine W.seq ?_ | with_reducible refine Ops.nil ?_ | with_reducible refine W.region ?_ | refine z_p (kk := ?_) | refine W.exit rfl ?_))
    exact W.fret rfl ⟨os, hO.up hb1, hol, fun j hj => hv j (by omega) hj⟩
theorem rep_getD {n i : Nat} {x : Int} (h : i < n) : (List.replicate n x).getD i 0 = x := by simp [List.getD_eq_getElem?_getD, h]
theorem valP_congr {l : List Nd} {dep : List Int} {f g : Int → Int} {vs : List Int} (h : ValP l dep f vs) (e : ∀ j : Nat, j < l.length → leafB l j = true → f j = g j) : ValP l dep g vs :=
  ⟨h.len, fun j hj => by
    rw [h.at_ j hj]
    unfold NV
    split
    · rename_i hl; exact e j hj hl
    · rfl⟩
end Go.Proofs.Ytdiljpnfochndaa
