/- A part of the walk: what this seat's statements share. -/
import Derived.Test.YtdiljpnfochndaaZG13
import Derived.Test.YtdiljpnfochndaaZG7
import Derived.Test.YtdiljpnfochndaaZG9
import Derived.Test.YtdiljpnfochndaaZG12
import Derived.Test.YtdiljpnfochndaaZG2
import Derived.Test.YtdiljpnfochndaaZG11
import Derived.ChangeSlices
import Derived.ChangeArms
set_option linter.unusedVariables false
set_option linter.unusedSimpArgs false
set_option linter.unusedSectionVars false
/- The tree with other orders of children is a tree, with the same values. -/
namespace Go.Proofs.Ytdiljpnfochndaa.HP
abbrev nd (T : List Nd) (p : Nat) : Nd := T.getD p ([], 0)
structure SegT (S : Int → List Int) (l : List Nd) (base : Nat) (T : List Nd) (O : List Int) : Prop where
  len : T.length = O.length
  wor : ∀ p : Nat, p < T.length → (nd T p).2 = wor l (O.getD p 0)
  klen : ∀ p : Nat, p < T.length → (nd T p).1.length = (S (O.getD p 0)).length
  kids : ∀ p b : Nat, p < T.length → b < (S (O.getD p 0)).length → ∃ q : Nat, (nd T p).1.getD b 0 = ((base + q : Nat) : Int) ∧ p < q ∧ q < T.length ∧ O.getD q 0 = (S (O.getD p 0)).getD b 0
theorem nd_l {T T' : List Nd} {p : Nat} (h : p < T.length) : nd (T ++ T') p = nd T p := by simp [nd, List.getD_eq_getElem?_getD, List.getElem?_append_left h]
theorem nd_r {T T' : List Nd} {p : Nat} (h : T.length ≤ p) : nd (T ++ T') p = nd T' (p - T.length) := by simp [nd, List.getD_eq_getElem?_getD, List.getElem?_append_right h]
theorem gd_l {T T' : List Int} {p : Nat} (h : p < T.length) : (T ++ T').getD p 0 = T.getD p 0 := by simp [List.getD_eq_getElem?_getD, List.getElem?_append_left h]
theorem gd_r {T T' : List Int} {p : Nat} (h : T.length ≤ p) : (T ++ T').getD p 0 = T'.getD (p - T.length) 0 := by simp [List.getD_eq_getElem?_getD, List.getElem?_append_right h]
theorem SegT.nil (S : Int → List Int) (l : List Nd) (base : Nat) : SegT S l base [] [] := ⟨rfl, fun p h => by simp at h, fun p h => by simp at h, fun p b h => by simp at h⟩
theorem SegT.append {S : Int → List Int} {l : List Nd} {base : Nat} {T T' : List Nd} {O O' : List Int} (h : SegT S l base T O) (k : SegT S l (base + T.length) T' O') : SegT S l base (T ++ T') (O ++ O') := by
  have hl := h.len
  refine ⟨by simp [h.len, k.len], fun p hp => ?_, fun p hp => ?_, fun p b hp hb => ?_⟩ <;> rw [List.length_append] at hp <;> by_cases e : p < T.length
  · rw [nd_l e, gd_l (by omega)]; exact h.wor p e
  · rw [nd_r (by omega), gd_r (by omega), ← hl]; exact k.wor _ (by omega)
  · rw [nd_l e, gd_l (by omega)]; exact h.klen p e
  · rw [nd_r (by omega), gd_r (by omega), ← hl]; exact k.klen _ (by omega)
  · rw [gd_l (by omega)] at hb
    obtain ⟨q, h1, h2, h3, h4⟩ := h.kids p b e hb
    exact ⟨q, by rw [nd_l e]; exact h1, h2, by rw [List.length_append]; omega, by rw [gd_l (by omega), gd_l (by omega)]; exact h4⟩
  · rw [gd_r (by omega), ← hl] at hb
    obtain ⟨q, h1, h2, h3, h4⟩ := k.kids (p - T.length) b (by omega) hb
    refine ⟨T.length + q, by rw [nd_r (by omega), h1]; congr 1; omega, by omega, by rw [List.length_append]; omega, ?_⟩
    rw [gd_r (by omega), gd_r (by omega), ← hl, show T.length + q - T.length = q by omega]; exact h4
theorem SegT.node {S : Int → List Int} {l : List Nd} {base : Nat} {i : Int} {F : List Nd} {P r : List Int} (h : SegT S l (base + 1) F P) (hr : r.length = (S i).length)
    (hk : ∀ b : Nat, b < (S i).length → ∃ q : Nat, r.getD b 0 = ((base + 1 + q : Nat) : Int) ∧ q < F.length ∧ P.getD q 0 = (S i).getD b 0) : SegT S l base ((r, Go.Proofs.Ytdiljpnfochndaa.HP.wor l i) :: F) (i :: P) := by
  refine ⟨by simp [h.len], fun p hp => ?_, fun p hp => ?_, fun p b hp hb => ?_⟩ <;> cases p with
  | zero => first | rfl | exact hr | (
      obtain ⟨q, h1, h2, h3⟩ := hk b hb
      exact ⟨q + 1, by show r.getD b 0 = _; rw [h1]; congr 1; omega, by omega, by simp; omega, by simpa using h3⟩)
  | succ p => first
    | exact h.wor p (by simpa using hp)
    | exact h.klen p (by simpa using hp)
    | (
      obtain ⟨q, h1, h2, h3, h4⟩ := h.kids p b (by simpa using hp) hb
      exact ⟨q + 1, by show (nd F p).1.getD b 0 = _; rw [h1]; congr 1; omega, by omega, by simp; omega, by simpa using h4⟩)
theorem subO_head {S : Int → List Int} {f : Nat} {i : Int} (h : 1 ≤ f) : 0 < (subO S f i).length ∧ (subO S f i).getD 0 0 = i := by
  obtain ⟨g, rfl⟩ : ∃ g, f = g + 1 := ⟨f - 1, by omega⟩
  exact ⟨by simp [subO], by simp [subO]⟩
theorem seg_sub {S : Int → List Int} {l : List Nd} {dep : List Int} (hS : Ord' S l) (hT : TF l dep) : ∀ (f i : Nat), i < l.length → l.length - i ≤ f → ∀ at_ : Nat, SegT S l at_ (subT S l f i at_) (subO S f i)
  | 0, i, hi, hf, _ => by omega
  | f + 1, i, hi, hf, at_ => by
    have key : ∀ cs : List Int, (∀ c ∈ cs, ∃ m : Nat, c = m ∧ m < l.length ∧ l.length - m ≤ f) → SegT S l (at_ + 1) (kT (subT S l f) at_ cs).2 (cs.flatMap (subO S f)) ∧
        ∀ b : Nat, b < cs.length → ∃ q : Nat, (kT (subT S l f) at_ cs).1.getD b 0 = ((at_ + 1 + q : Nat) : Int) ∧ q < (kT (subT S l f) at_ cs).2.length ∧ (cs.flatMap (subO S f)).getD q 0 = cs.getD b 0 := fun cs => by
      refine rev_ind (P := fun cs => (∀ c ∈ cs, ∃ m : Nat, c = m ∧ m < l.length ∧ l.length - m ≤ f) → SegT S l (at_ + 1) (kT (subT S l f) at_ cs).2 (cs.flatMap (subO S f)) ∧
        ∀ b : Nat, b < cs.length → ∃ q : Nat, (kT (subT S l f) at_ cs).1.getD b 0 = ((at_ + 1 + q : Nat) : Int) ∧ q < (kT (subT S l f) at_ cs).2.length ∧ (cs.flatMap (subO S f)).getD q 0 = cs.getD b 0) ?_ (fun cs c ih => ?_) cs
      · exact fun _ => ⟨SegT.nil _ _ _, fun b hb => by simp at hb⟩
      · intro hc
        obtain ⟨h1, h2⟩ := ih fun c hc' => hc c (by simp [hc'])
        obtain ⟨m, rfl, hm, hmf⟩ := hc c (by simp)
        have hsub := seg_sub hS hT f m hm hmf (at_ + 1 + (kT (subT S l f) at_ cs).2.length)
        have hhd := subO_head (S := S) (i := m) (show 1 ≤ f by omega)
        have hl1 := kT_len1 (subT S l f) at_ cs
        have hl2 := h1.len
        have hl3 := hsub.len
        have happ := h1.append hsub
        rw [kT_snoc, List.flatMap_append]
        simp only [List.flatMap_cons, List.flatMap_nil, List.append_nil]
        refine ⟨happ, fun b hb => ?_⟩
        by_cases e : b < cs.length
        · obtain ⟨q, g1, g2, g3⟩ := h2 b e
          exact ⟨q, by rw [gd_l (by omega)]; exact g1, by rw [List.length_append]; omega, by rw [gd_l (by omega), gd_l e]; exact g3⟩
        · rw [List.length_append, List.length_singleton] at hb
          have hbe : b = cs.length := by omega
          subst hbe
          refine ⟨(kT (subT S l f) at_ cs).2.length, by rw [gd_r (by omega), hl1, Nat.sub_self]; rfl, by rw [List.length_append]; omega, ?_⟩
          rw [gd_r (by omega), gd_r (by omega), ← hl2, Nat.sub_self, Nat.sub_self, hhd.2]
          rfl
    have hcs : ∀ c ∈ S i, ∃ m : Nat, c = m ∧ m < l.length ∧ l.length - m ≤ f := fun c hc => by
      rw [hS.mem hi] at hc
      obtain ⟨h1, h2⟩ := mem_kid hT hi hc
      exact ⟨c.toNat, by omega, by omega, by omega⟩
    obtain ⟨h1, h2⟩ := key (S i) hcs
    exact h1.node (kT_len1 _ _ _) h2
theorem getD_inj {O : List Int} (h : O.Nodup) {p q : Nat} (hp : p < O.length) (hq : q < O.length) (e : O.getD p 0 = O.getD q 0) : p = q := by
  have : O[p] = O[q] := by simpa [List.getD_eq_getElem?_getD, hp, hq] using e
  exact (List.getElem_inj (h₀ := hp) (h₁ := hq) h).1 this
theorem mem_getD {O : List Int} {x : Int} (h : x ∈ O) : ∃ p : Nat, p < O.length ∧ O.getD p 0 = x := by
  obtain ⟨p, hp, rfl⟩ := List.mem_iff_getElem.1 h
  exact ⟨p, hp, by simp [List.getD_eq_getElem?_getD, hp]⟩
/-- The whole tree, with its places. -/
structure SrtT (S : Int → List Int) (l : List Nd) (s : List Nd) (O : List Int) : Prop where
  seg : SegT S l 0 s O
  nod : O.Nodup
  n : s.length = l.length
  rng : ∀ x ∈ O, 0 ≤ x ∧ x < l.length
  all : ∀ x : Nat, x < l.length → ∃ p : Nat, p < s.length ∧ O.getD p 0 = x
  hd : O.getD 0 0 = 0
theorem srt_of {S : Int → List Int} {l : List Nd} {dep : List Int} (hS : Ord' S l) (hT : TF l dep) : SrtT S l (subT S l l.length 0 0) (subO S l.length 0) := by
  have hn1 := hT.n1
  have hseg := seg_sub hS hT l.length 0 (by omega) (by omega) 0
  have hnd := subO_nodup hS hT l.length 0 (by omega)
  have hmem := subO_mem hS hT l.length 0 (by omega)
  have hhd := subO_head (S := S) (i := 0) (show 1 ≤ l.length by omega)
  rw [show ((0 : Nat) : Int) = 0 from rfl] at hseg hnd hmem
  have hall : ∀ x : Nat, x < l.length → ∃ p : Nat, p < (subO S l.length 0).length ∧ (subO S l.length 0).getD p 0 = x := by
    intro x
    induction x using Nat.strongRecOn with
    | _ x ih =>
      intro hx
      by_cases h0 : x = 0
      · subst h0; exact ⟨0, hhd.1, hhd.2⟩
      · obtain ⟨a, b, ha, hb, hk⟩ := hT.cov x (by omega) hx
        have hk2 := hT.kin a b ha hb
        obtain ⟨p, hp, e⟩ := ih a (by omega) ha
        have hm : (x : Int) ∈ S a := (hS.mem ha).2 (by rw [← hk]; exact getD_mem hb)
        obtain ⟨b', hb', e'⟩ := mem_getD hm
        obtain ⟨q, _, _, h3, h4⟩ := hseg.kids p b' (by rw [hseg.len]; exact hp) (by rw [e]; exact hb')
        rw [e, e'] at h4
        exact ⟨q, by rw [← hseg.len]; exact h3, h4⟩
  have hlen : (subO S l.length 0).length = l.length := by
    refine Nat.le_antisymm (nodup_len _ _ hnd fun x hx => by have := hmem x hx; omega) ?_
    have h := nodup_sub ((List.range l.length).map fun i : Nat => (i : Int)) (subO S l.length 0) (by
      rw [List.nodup_iff_pairwise_ne, List.pairwise_map]
      exact (List.nodup_iff_pairwise_ne.1 List.nodup_range).imp fun h e => h (by omega)) (fun x hx => by
      obtain ⟨i, hi, rfl⟩ := List.mem_map.1 hx
      obtain ⟨p, hp, e⟩ := hall i (List.mem_range.1 hi)
      rw [← e]; exact getD_mem hp)
    simpa using h
  exact ⟨hseg, hnd, by rw [hseg.len, hlen], fun x hx => by have := hmem x hx; omega, fun x hx => by obtain ⟨p, h1, h2⟩ := hall x hx; exact ⟨p, by rw [hseg.len]; exact h1, h2⟩, hhd.2⟩
theorem SrtT.at_ {S : Int → List Int} {l s : List Nd} {O : List Int} (h : SrtT S l s O) {p : Nat} (hp : p < s.length) : ∃ i : Nat, O.getD p 0 = i ∧ i < l.length := by
  have hm := h.rng _ (getD_mem (show p < O.length by rw [← h.seg.len]; exact hp))
  exact ⟨(O.getD p 0).toNat, by omega, by omega⟩
theorem SrtT.kid {S : Int → List Int} {l s : List Nd} {O : List Int} (h : SrtT S l s O) {p b : Nat} (hp : p < s.length) (hb : b < (kid s p).length) : ∃ q : Nat, k_ s p b = q ∧ p < q ∧ q < s.length ∧ O.getD q 0 = (S (O.getD p 0)).getD b 0 := by
  have hb' : b < (S (O.getD p 0)).length := by rw [← h.seg.klen p hp]; exact hb
  obtain ⟨q, h1, h2, h3, h4⟩ := h.seg.kids p b hp hb'
  exact ⟨q, by simpa [k_, Go.Proofs.Ytdiljpnfochndaa.HP.kid] using h1, h2, h3, h4⟩
theorem SrtT.tk {S : Int → List Int} {l s : List Nd} {O : List Int} {dep : List Int} (h : SrtT S l s O) (hS : Ord' S l) (hT : TF l dep) : TK s := by
  have hn := h.n
  have hol := h.seg.len
  have hmem : ∀ {a b : Nat}, a < s.length → b < (Go.Proofs.Ytdiljpnfochndaa.HP.kid s a).length → ∃ (i β : Nat), O.getD a 0 = i ∧ i < l.length ∧ b < (S i).length ∧ β < (Go.Proofs.Ytdiljpnfochndaa.HP.kid l i).length ∧ (S i).getD b 0 = k_ l i β := fun {a b} ha hb => by
    obtain ⟨i, e, hi⟩ := h.at_ ha
    have hb' : b < (S i).length := by rw [← e, ← h.seg.klen a ha]; exact hb
    obtain ⟨β, h1, h2⟩ := kid_at ((hS.mem hi).1 (getD_mem hb'))
    exact ⟨i, β, e, hi, hb', h1, h2.symm⟩
  refine ⟨by have := hT.n1; omega, by have := hT.n60; omega, fun a b ha hb => ?_, fun a b a' b' ha hb ha' hb' e => ?_, fun c h1 h2 => ?_, fun a ha => ?_⟩
  · obtain ⟨q, e, h1, h2, _⟩ := h.kid ha hb
    rw [e]; omega
  · obtain ⟨q, e1, _, h3, h4⟩ := h.kid ha hb
    obtain ⟨q', e2, _, _, h4'⟩ := h.kid ha' hb'
    have hq : q = q' := by omega
    subst hq
    obtain ⟨i, β, ei, hi, hbl, hβ, f1⟩ := hmem ha hb
    obtain ⟨i', β', ei', hi', hbl', hβ', f2⟩ := hmem ha' hb'
    rw [ei, f1] at h4
    rw [ei', f2] at h4'
    have hii := (hT.inj i β i' β' hi hβ hi' hβ' (by omega)).1
    subst hii
    have haa : a = a' := getD_inj h.nod (by omega) (by omega) (by rw [ei, ei'])
    refine ⟨haa, ?_⟩
    have hnS : (S i).Nodup := (hS i hi).nodup_iff.2 (kid_nodup hT hi)
    exact getD_inj hnS hbl hbl' (by rw [f1, f2]; omega)
  · obtain ⟨i, ei, hi⟩ := h.at_ h2
    have h0 : i ≠ 0 := fun e0 => by
      subst e0
      have := getD_inj h.nod (p := c) (q := 0) (by omega) (by omega) (by rw [ei, h.hd]; rfl)
      omega
    obtain ⟨y, b, hy, hb, hk⟩ := hT.cov i (by omega) hi
    obtain ⟨p, hp, ep⟩ := h.all y hy
    have hm : (i : Int) ∈ S y := (hS.mem hy).2 (by rw [← hk]; exact getD_mem hb)
    obtain ⟨b', hb', e'⟩ := mem_getD hm
    have hbk : b' < (Go.Proofs.Ytdiljpnfochndaa.HP.kid s p).length := by
      have := h.seg.klen p hp
      rw [ep] at this
      rw [show (Go.Proofs.Ytdiljpnfochndaa.HP.kid s p).length = (nd s p).1.length by simp [Go.Proofs.Ytdiljpnfochndaa.HP.kid], this]; exact hb'
    obtain ⟨q, e1, _, h3, h4⟩ := h.kid hp hbk
    rw [ep, e'] at h4
    have : q = c := getD_inj h.nod (by omega) (by omega) (by rw [h4, ei])
    subst this
    exact ⟨p, b', hp, hbk, e1⟩
  · obtain ⟨i, ei, hi⟩ := h.at_ ha
    have hw : Go.Proofs.Ytdiljpnfochndaa.HP.wor s a = Go.Proofs.Ytdiljpnfochndaa.HP.wor l i := by have := h.seg.wor a ha; rw [ei] at this; simpa [Go.Proofs.Ytdiljpnfochndaa.HP.wor] using this
    have hk : (Go.Proofs.Ytdiljpnfochndaa.HP.kid s a).length = (Go.Proofs.Ytdiljpnfochndaa.HP.kid l i).length := by
      have := h.seg.klen a ha
      rw [ei, (hS i hi).length_eq] at this
      simpa [Go.Proofs.Ytdiljpnfochndaa.HP.kid] using this
    rw [hw, hk]
    exact hT.wor i hi
end Go.Proofs.Ytdiljpnfochndaa.HP
/- Depths and values of the other tree. -/
namespace Go.Proofs.Ytdiljpnfochndaa.HP
theorem maxL_perm {cs ds : List Int} {g h : Int → Int} (h0 : cs ≠ []) (h0' : ds ≠ []) (e : ∀ b : Int, (∃ c ∈ cs, b ≤ g c) ↔ ∃ d ∈ ds, b ≤ h d) : maxL (cs.map g) = maxL (ds.map h) := by
  have h1 := (maxL_ge (g := g) (b := maxL (cs.map g)) h0).1 (Int.le_refl _)
  have h2 := (maxL_ge (g := h) (b := maxL (ds.map h)) h0').1 (Int.le_refl _)
  exact Int.le_antisymm ((maxL_ge h0').2 ((e _).1 h1)) ((maxL_ge h0).2 ((e _).2 h2))
theorem minL_perm {cs ds : List Int} {g h : Int → Int} (h0 : cs ≠ []) (h0' : ds ≠ []) (e : ∀ b : Int, (∀ c ∈ cs, b ≤ g c) ↔ ∀ d ∈ ds, b ≤ h d) : minL (cs.map g) = minL (ds.map h) := by
  have h1 := (minL_ge (g := g) (b := minL (cs.map g)) h0).1 (Int.le_refl _)
  have h2 := (minL_ge (g := h) (b := minL (ds.map h)) h0').1 (Int.le_refl _)
  exact Int.le_antisymm ((minL_ge h0').2 ((e _).1 h1)) ((minL_ge h0).2 ((e _).2 h2))
variable {S : Int → List Int} {l s : List Nd} {O dep dep' vs vs' : List Int}
/-- The children of a place are the places of the children. -/
theorem SrtT.kidmap (h : SrtT S l s O) {p : Nat} (hp : p < s.length) : (Go.Proofs.Ytdiljpnfochndaa.HP.kid s p).map (rd O) = S (O.getD p 0) := by
  have hl : (Go.Proofs.Ytdiljpnfochndaa.HP.kid s p).length = (S (O.getD p 0)).length := by have := h.seg.klen p hp; simpa [Go.Proofs.Ytdiljpnfochndaa.HP.kid] using this
  refine List.ext_getElem (by simp [hl]) fun b h1 h2 => ?_
  rw [List.length_map] at h1
  obtain ⟨q, e, _, _, e2⟩ := h.kid hp h1
  have e3 : (Go.Proofs.Ytdiljpnfochndaa.HP.kid s p)[b] = (q : Int) := by
    have : (Go.Proofs.Ytdiljpnfochndaa.HP.kid s p).getD b 0 = q := e
    simpa [List.getD_eq_getElem?_getD, h1] using this
  rw [List.getElem_map, e3]
  have e4 : (S (O.getD p 0)).getD b 0 = (S (O.getD p 0))[b] := by rw [List.getD_eq_getElem?_getD (l := S (O.getD p 0)), List.getElem?_eq_getElem h2]; rfl
  rw [← e4, ← e2]
  simp [rd]
theorem SrtT.dp (h : SrtT S l s O) (hS : Ord' S l) (hT : TF l dep) (hT' : TF s dep') : ∀ p : Nat, p < s.length → rd dep' p = rd dep (O.getD p 0) := by
  have hd0 := hT.dbd 0
  have hd0' := hT'.dbd 0
  intro p
  induction p using Nat.strongRecOn with
  | _ p ih =>
    intro hp
    by_cases h0 : p = 0
    · subst h0
      rw [h.hd]
      show dep'.getD 0 0 = dep.getD 0 0
      omega
    · obtain ⟨a, b, ha, hb, hk⟩ := hT'.cov p (by omega) hp
      have hka := hT'.kin a b ha hb
      have hda := hT'.kdep a b ha hb
      obtain ⟨q, e, _, _, e2⟩ := h.kid ha hb
      have hq : q = p := by omega
      subst hq
      rw [e] at hda
      rw [hda, ih a (by omega) ha, e2]
      obtain ⟨i, ei, hi⟩ := h.at_ ha
      have hb' : b < (S (O.getD a 0)).length := by
        have := h.seg.klen a ha
        rw [← this]; simpa [Go.Proofs.Ytdiljpnfochndaa.HP.kid] using hb
      rw [ei] at hb' ⊢
      obtain ⟨β, h1, h2⟩ := kid_at ((hS.mem hi).1 (getD_mem hb'))
      have := hT.kdep i β hi h1
      simp only [k_] at this
      rw [← h2, this]
theorem SrtT.ev (h : SrtT S l s O) (hS : Ord' S l) (hT : TF l dep) (hT' : TF s dep') {p : Nat} (hp : p < s.length) : evB dep' p = evB dep (O.getD p 0) := by
  unfold evB; rw [h.dp hS hT hT' p hp]
theorem SrtT.leaf (h : SrtT S l s O) (hS : Ord' S l) {p : Nat} (hp : p < s.length) : leafB s p = leafB l (O.getD p 0) := by
  obtain ⟨i, ei, hi⟩ := h.at_ hp
  have h1 : (Go.Proofs.Ytdiljpnfochndaa.HP.kid s p).length = (Go.Proofs.Ytdiljpnfochndaa.HP.kid l i).length := by
    have := h.seg.klen p hp
    rw [ei, (hS i hi).length_eq] at this
    simpa [Go.Proofs.Ytdiljpnfochndaa.HP.kid] using this
  unfold leafB
  rw [ei]
  cases e1 : Go.Proofs.Ytdiljpnfochndaa.HP.kid s p <;> cases e2 : Go.Proofs.Ytdiljpnfochndaa.HP.kid l i <;> simp [e1, e2] at h1 ⊢
theorem SrtT.wor_ (h : SrtT S l s O) {p : Nat} (hp : p < s.length) : Go.Proofs.Ytdiljpnfochndaa.HP.wor s p = Go.Proofs.Ytdiljpnfochndaa.HP.wor l (O.getD p 0) := by
  have := h.seg.wor p hp; simpa [Go.Proofs.Ytdiljpnfochndaa.HP.wor] using this
theorem SrtT.val (h : SrtT S l s O) (hS : Ord' S l) (hT : TF l dep) (hT' : TF s dep') (hv : ValP l dep (Go.Proofs.Ytdiljpnfochndaa.HP.wor l) vs) (hv' : ValP s dep' (Go.Proofs.Ytdiljpnfochndaa.HP.wor s) vs') : ∀ p : Nat, p < s.length → vs'.getD p 0 = rd vs (O.getD p 0) := by
  refine tree_ind hT' (Q := fun p => vs'.getD p 0 = rd vs (O.getD p 0)) fun p hp hk => ?_
  obtain ⟨i, ei, hi⟩ := h.at_ hp
  have hki : ∀ c ∈ Go.Proofs.Ytdiljpnfochndaa.HP.kid s p, rd vs' c = rd vs (rd O c) := fun c hc => by
    obtain ⟨m, rfl, _, e⟩ := hk c hc
    simpa [rd] using e
  have hmap : (Go.Proofs.Ytdiljpnfochndaa.HP.kid s p).map (rd O) = S i := by rw [h.kidmap hp, ei]
  have hmem : ∀ x : Int, x ∈ Go.Proofs.Ytdiljpnfochndaa.HP.kid l i ↔ ∃ c ∈ Go.Proofs.Ytdiljpnfochndaa.HP.kid s p, rd O c = x := fun x => by
    rw [← hS.mem hi, ← hmap, List.mem_map]
  rw [hv'.at_ p hp]
  rw [ei]
  show _ = vs.getD (i : Int).toNat 0
  rw [Int.toNat_natCast, hv.at_ i hi]
  unfold NV
  have hlf := h.leaf hS hp
  have hev := h.ev hS hT hT' hp
  have hw := h.wor_ hp
  rw [ei] at hlf hev hw
  rw [hlf, hev, hw]
  by_cases hl : leafB l i = true
  · rw [if_pos hl, if_pos hl]
  · have hne := leaf_ne hl
    have hne' := leaf_ne (show ¬ leafB s p = true by rw [hlf]; exact hl)
    rw [if_neg hl, if_neg hl]
    by_cases he : evB dep i = true
    · rw [if_pos he, if_pos he]
      refine maxL_perm hne' hne fun b => ⟨fun ⟨c, hc, hb⟩ => ⟨rd O c, (hmem _).2 ⟨c, hc, rfl⟩, by rw [← hki c hc]; exact hb⟩, fun ⟨x, hx, hb⟩ => ?_⟩
      obtain ⟨c, hc, rfl⟩ := (hmem x).1 hx
      exact ⟨c, hc, by rw [hki c hc]; exact hb⟩
    · rw [if_neg he, if_neg he]
      refine minL_perm hne' hne fun b => ⟨fun hb x hx => ?_, fun hb c hc => ?_⟩
      · obtain ⟨c, hc, rfl⟩ := (hmem x).1 hx
        rw [← hki c hc]; exact hb c hc
      · rw [hki c hc]; exact hb _ ((hmem _).2 ⟨c, hc, rfl⟩)
end Go.Proofs.Ytdiljpnfochndaa.HP
/- Sorting once more changes nothing; the first child has the value. -/
namespace Go.Proofs.Ytdiljpnfochndaa.HP
theorem sub_again {S S' : Int → List Int} {l s : List Nd} : ∀ (f : Nat) (i : Int) (at_ : Nat), (∀ p : Nat, p < (subT S l f i at_).length → S' ((at_ + p : Nat) : Int) = (nd (subT S l f i at_) p).1 ∧ wor s ((at_ + p : Nat) : Int) = (nd (subT S l f i at_) p).2) → subT S' s f at_ at_ = subT S l f i at_
  | 0, i, at_, _ => rfl
  | f + 1, i, at_, h => by
    have h0 := h 0 (by simp [subT])
    have e1 : S' (at_ : Int) = (kT (subT S l f) at_ (S i)).1 := h0.1
    have e2 : wor s (at_ : Int) = wor l i := h0.2
    have hr : ∀ p : Nat, p < (kT (subT S l f) at_ (S i)).2.length → S' ((at_ + 1 + p : Nat) : Int) = (nd (kT (subT S l f) at_ (S i)).2 p).1 ∧ wor s ((at_ + 1 + p : Nat) : Int) = (nd (kT (subT S l f) at_ (S i)).2 p).2 := fun p hp => by
      have := h (p + 1) (by simp [subT]; exact hp)
      rw [show at_ + (p + 1) = at_ + 1 + p by omega] at this
      exact this
    have key : ∀ cs : List Int, (∀ p : Nat, p < (kT (subT S l f) at_ cs).2.length → S' ((at_ + 1 + p : Nat) : Int) = (nd (kT (subT S l f) at_ cs).2 p).1 ∧ wor s ((at_ + 1 + p : Nat) : Int) = (nd (kT (subT S l f) at_ cs).2 p).2) →
        kT (subT S' s f) at_ (kT (subT S l f) at_ cs).1 = kT (subT S l f) at_ cs := fun cs => by
      refine rev_ind (P := fun cs => (∀ p : Nat, p < (kT (subT S l f) at_ cs).2.length → S' ((at_ + 1 + p : Nat) : Int) = (nd (kT (subT S l f) at_ cs).2 p).1 ∧ wor s ((at_ + 1 + p : Nat) : Int) = (nd (kT (subT S l f) at_ cs).2 p).2) →
        kT (subT S' s f) at_ (kT (subT S l f) at_ cs).1 = kT (subT S l f) at_ cs) (fun _ => rfl) (fun cs c ih => ?_) cs
      intro hc
      rw [kT_snoc] at hc ⊢
      generalize kT (subT S l f) at_ cs = P at *
      simp only at hc ⊢
      have h1 := ih fun p hp => by
        have := hc p (by rw [List.length_append]; omega)
        rw [nd_l hp] at this
        exact this
      have h2 := sub_again (S := S) (S' := S') (l := l) (s := s) f c (at_ + 1 + P.2.length) fun p hp => by
        have := hc (P.2.length + p) (by rw [List.length_append]; omega)
        rw [nd_r (by omega), show P.2.length + p - P.2.length = p by omega, show at_ + 1 + (P.2.length + p) = at_ + 1 + P.2.length + p by omega] at this
        exact this
      rw [kT_snoc, h1, h2]
    simp only [subT]
    rw [e1, e2, key _ hr]
theorem SS_le {l : List Nd} {dep : List Int} (hT : TF l dep) (vs : List Int) {i : Nat} (hi : i < l.length) {b b' : Nat} (h1 : b < b') (h2 : b' < (SS l dep vs i).length) : sg dep i * rd vs ((SS l dep vs i).getD b 0) ≤ sg dep i * rd vs ((SS l dep vs i).getD b' 0) := by
  have hp := List.pairwise_iff_getElem.1 (SS_pw hT vs hi) b b' (by omega) h2 h1
  have hk := hT.klen i hi
  have e1 : (SS l dep vs i).getD b 0 = (SS l dep vs i)[b] := by rw [List.getD_eq_getElem?_getD, List.getElem?_eq_getElem (by omega)]; rfl
  have e2 : (SS l dep vs i).getD b' 0 = (SS l dep vs i)[b'] := by rw [List.getD_eq_getElem?_getD, List.getElem?_eq_getElem h2]; rfl
  rw [← e1, ← e2] at hp
  unfold KK at hp
  have g1 : (kid l i).idxOf ((SS l dep vs i).getD b 0) ≤ (kid l i).length := List.idxOf_le_length
  have g2 : (kid l i).idxOf ((SS l dep vs i).getD b' 0) ≤ (kid l i).length := List.idxOf_le_length
  omega
variable {l s : List Nd} {O dep dep' vs vs' : List Int}
theorem SrtT.kidD (h : SrtT (SS l dep vs) l s O) {p b : Nat} (hp : p < s.length) (hb : b < (Go.Proofs.Ytdiljpnfochndaa.HP.kid s p).length) (hT : TF l dep) (hT' : TF s dep') (hv : ValP l dep (Go.Proofs.Ytdiljpnfochndaa.HP.wor l) vs) (hv' : ValP s dep' (Go.Proofs.Ytdiljpnfochndaa.HP.wor s) vs') : rd vs' (k_ s p b) = rd vs ((SS l dep vs (O.getD p 0)).getD b 0) := by
  obtain ⟨q, e, _, h3, h4⟩ := h.kid hp hb
  rw [e, ← h4]
  show vs'.getD (q : Int).toNat 0 = _
  rw [Int.toNat_natCast]
  exact h.val (SS_ord l dep vs) hT hT' hv hv' q h3
theorem SrtT.le (h : SrtT (SS l dep vs) l s O) {p b b' : Nat} (hp : p < s.length) (hb : b < b') (hb' : b' < (Go.Proofs.Ytdiljpnfochndaa.HP.kid s p).length) (hT : TF l dep) (hT' : TF s dep') (hv : ValP l dep (Go.Proofs.Ytdiljpnfochndaa.HP.wor l) vs) (hv' : ValP s dep' (Go.Proofs.Ytdiljpnfochndaa.HP.wor s) vs') : sg dep' p * rd vs' (k_ s p b) ≤ sg dep' p * rd vs' (k_ s p b') := by
  rw [h.kidD hp (by omega) hT hT' hv hv', h.kidD hp hb' hT hT' hv hv']
  have hev := h.ev (SS_ord l dep vs) hT hT' hp
  obtain ⟨i, ei, hi⟩ := h.at_ hp
  rw [ei] at hev ⊢
  rw [show sg dep' p = sg dep i by unfold sg; rw [hev]]
  refine SS_le hT vs hi hb ?_
  have := h.seg.klen p hp
  rw [ei] at this
  rw [← this]; simpa [Go.Proofs.Ytdiljpnfochndaa.HP.kid] using hb'
theorem SrtT.same (h : SrtT (SS l dep vs) l s O) (hT : TF l dep) (hT' : TF s dep') (hv : ValP l dep (Go.Proofs.Ytdiljpnfochndaa.HP.wor l) vs) (hv' : ValP s dep' (Go.Proofs.Ytdiljpnfochndaa.HP.wor s) vs') {p : Nat} (hp : p < s.length) : SS s dep' vs' p = Go.Proofs.Ytdiljpnfochndaa.HP.kid s p := by
  refine (SS_uniq hT' vs' hp (List.Perm.refl _) ?_).symm
  rw [List.pairwise_iff_getElem]
  intro b b' hb hb' hbb
  have e1 : (Go.Proofs.Ytdiljpnfochndaa.HP.kid s p)[b] = (Go.Proofs.Ytdiljpnfochndaa.HP.kid s p).getD b 0 := by rw [List.getD_eq_getElem?_getD, List.getElem?_eq_getElem hb]; rfl
  have e2 : (Go.Proofs.Ytdiljpnfochndaa.HP.kid s p)[b'] = (Go.Proofs.Ytdiljpnfochndaa.HP.kid s p).getD b' 0 := by rw [List.getD_eq_getElem?_getD, List.getElem?_eq_getElem hb']; rfl
  rw [e1, e2, KK_kid hT' vs' hp hb, KK_kid hT' vs' hp hb']
  have := h.le hp hbb hb' hT hT' hv hv'
  simp only [k_] at this
  omega
theorem sort_again (hT : TF l dep) (hv : ValP l dep (wor l) vs) (hs : s = subT (SS l dep vs) l l.length 0 0) (hT' : TF s dep') (hv' : ValP s dep' (wor s) vs') : subT (SS s dep' vs') s s.length 0 0 = s := by
  have h := srt_of (SS_ord l dep vs) hT
  rw [← hs] at h
  have e := sub_again (S := SS l dep vs) (S' := SS s dep' vs') (l := l) (s := s) l.length 0 0 (by
    rw [← hs]
    intro p hp
    rw [Nat.zero_add]
    refine ⟨?_, ?_⟩
    · rw [h.same hT hT' hv hv' hp]; simp [Go.Proofs.Ytdiljpnfochndaa.HP.kid]
    · simp [Go.Proofs.Ytdiljpnfochndaa.HP.wor])
  rw [h.n, ← hs] at *
  exact e
theorem SrtT.first (h : SrtT (SS l dep vs) l s O) {p : Nat} (hp : p < s.length) (hb : 0 < (Go.Proofs.Ytdiljpnfochndaa.HP.kid s p).length) (hT : TF l dep) (hT' : TF s dep') (hv : ValP l dep (Go.Proofs.Ytdiljpnfochndaa.HP.wor l) vs) (hv' : ValP s dep' (Go.Proofs.Ytdiljpnfochndaa.HP.wor s) vs') : rd vs' (k_ s p 0) = vs'.getD p 0 := by
  have hne : Go.Proofs.Ytdiljpnfochndaa.HP.kid s p ≠ [] := fun e => by rw [e] at hb; simp at hb
  have hlf : ¬ leafB s p = true := fun e => hne (by simpa [leafB] using e)
  rw [hv'.at_ p hp]
  unfold NV
  rw [if_neg hlf]
  have hall : ∀ c ∈ Go.Proofs.Ytdiljpnfochndaa.HP.kid s p, sg dep' p * rd vs' (k_ s p 0) ≤ sg dep' p * rd vs' c := fun c hc => by
    obtain ⟨b, hb', rfl⟩ := kid_at hc
    cases b with
    | zero => exact Int.le_refl _
    | succ b => exact h.le hp (Nat.succ_pos b) hb' hT hT' hv hv'
  have h0 : k_ s p 0 ∈ Go.Proofs.Ytdiljpnfochndaa.HP.kid s p := getD_mem hb
  by_cases he : evB dep' p = true
  · rw [if_pos he]
    rw [show sg dep' p = -1 by unfold sg; rw [he]; rfl] at hall
    exact Int.le_antisymm ((maxL_ge hne).2 ⟨_, h0, Int.le_refl _⟩) ((maxL_le hne).2 fun c hc => by have := hall c hc; omega)
  · rw [if_neg he]
    rw [show sg dep' p = 1 by unfold sg; rw [if_neg he]] at hall
    exact Int.le_antisymm ((minL_ge hne).2 fun c hc => by have := hall c hc; omega) ((minL_le hne).2 ⟨_, h0, Int.le_refl _⟩)
end Go.Proofs.Ytdiljpnfochndaa.HP
namespace Go.Proofs.Ytdiljpnfochndaa
open Go Go.RowKit Go.Proofs.Ytdiljpnfochndaa.VW
open Go.Proofs.Ytdiljpnfochndaa.HP (Nd kid wor leafB rd evB sg gameOf gameOf_TF TF TK ValP k_ tameM tame_TK SS subT subO srt_of SS_ord)
attribute [local irreducible] W Ops OrdA VW.Ord OrdX
theorem sortM_len {l : List Nd} {dep : List Int} (hT : TF l dep) (vs : List Int) : (sortM l dep vs).length = l.length := (srt_of (SS_ord l dep vs) hT).n
set_option maxHeartbeats 8000000 in
theorem sortedLaw_c {w : World} {pv wv : Value} {ps ws : List Int} (hp : SlI w pv ps) (hw : SlI w wv ws) :
    Calls Try.prog 12 #[pv, wv] w (Ret fun r w' => r = .bool true ∧ Below w.heap.size w w') := by
  refine calls_W (vs := [_, _]) Try.func12 rfl (by kernel_rfl) rfl ?_
  (repeat (first | with_reducible refine W.seq ?_ | with_reducible refine Ops.nil ?_ | with_reducible refine W.region ?_ | refine z_p (kk := ?_) | refine z_a (kk := ?_) | refine z_y (kk := ?_) | refine z_n (kk := ?_) | refine z_u (kk := ?_) | with_reducible refine W.skip ?_ | with_reducible refine W.endb ?_ | with_reducible refine W.block ?_ | refine W.exit rfl ?_ | refine z_l (kk := ?_) | refine z_f (kk := ?_) | refine z_M (kk := ?_) | refine z_m (kk := ?_) | refine z_e (kk := ?_) | refine z_E (kk := ?_) | refine z_d (kk := ?_) | refine z_I (kk := fun _ => ?_) | refine z_J (kk := fun _ => ?_) | refine z_K (kk := fun _ => ?_) | refine z_L (kk := fun _ => ?_) | refine z_T (kk := ?_) | refine z_F (kk := ?_) | refine z_k (kk := fun _ _ _ _ _ => ?_) | refine z_w (kk := fun _ _ => ?_) | refine z_s (kk := fun _ _ _ _ => ?_) | refine z_D (kk := ?_) | refine z_g (kk := ?_) | refine z_h (kk := ?_)))
  refine Ops.call rfl rfl rfl rfl rfl (tame_c (most := 60) hp hw (by decide) (by decide)) (fun tv w1 hR => ?_)
  obtain ⟨hT1, hb1⟩ := hR
  have hTK := tame_TK (ps := ps) (ws := ws) (most := 60) (by decide) (by decide)
  generalize tameM ps ws 60 = l at *
  obtain ⟨dep, hg⟩ := hTK.game
  have hTF := gameOf_TF hg
  have hn1 := hTF.n1
  have hn60 := hTF.n60
  clear hp hw hTK
  obtain ⟨At, ct, rfl⟩ := hT1.sl
  (repeat (first | with_reducible refine W.seq ?_ | with_reducible refine Ops.nil ?_ | with_reducible refine W.region ?_ | refine z_p (kk := ?_) | refine z_a (kk := ?_) | refine z_y (kk := ?_) | refine z_n (kk := ?_) | refine z_u (kk := ?_) | with_reducible refine W.skip ?_ | with_reducible refine W.endb ?_ | with_reducible refine W.block ?_ | refine W.exit rfl ?_ | refine z_l (kk := ?_) | refine z_f (kk := ?_) | refine z_M (kk := ?_) | refine z_m (kk := ?_) | refine z_e (kk := ?_) | refine z_E (kk := ?_) | refine z_d (kk := ?_) | refine z_I (kk := fun _ => ?_) | refine z_J (kk := fun _ => ?_) | refine z_K (kk := fun _ => ?_) | refine z_L (kk := fun _ => ?_) | refine z_T (kk := ?_) | refine z_F (kk := ?_) | refine z_k (kk := fun _ _ _ _ _ => ?_) | refine z_w (kk := fun _ _ => ?_) | refine z_s (kk := fun _ _ _ _ => ?_) | refine z_D (kk := ?_) | refine z_g (kk := ?_) | refine z_h (kk := ?_)))
  refine Ops.call rfl rfl rfl rfl rfl (sorted_c hT1 (by omega)) (fun r w2 hR => ?_)
  obtain ⟨hb2, hR2⟩ := hR
  have hb02 := Below.via hb1 hb2
  have hT2 := hT1.below hb2
  unfold SortR at hR2
  rw [hg] at hR2
  obtain ⟨vs, ov, cvs, hvs, rfl, hQ2⟩ := hR2
  have hS2 := hQ2.treeM
  have hsl := sortM_len hTF vs
  have hsrt := srt_of (SS_ord l dep vs) hTF
  have hsT := hsrt.tk (SS_ord l dep vs) hTF
  have hsame := fun dep' vs' => Go.Proofs.Ytdiljpnfochndaa.HP.sort_again (s := sortM l dep vs) (dep' := dep') (vs' := vs') hTF hvs rfl
  change Go.Proofs.Ytdiljpnfochndaa.HP.SrtT _ l (sortM l dep vs) _ at hsrt
  change TK (sortM l dep vs) at hsT
  clear hQ2
  (repeat (first | with_reducible refine W.seq ?_ | with_reducible refine Ops.nil ?_ | with_reducible refine W.region ?_ | refine z_p (kk := ?_) | refine z_a (kk := ?_) | refine z_y (kk := ?_) | refine z_n (kk := ?_) | refine z_u (kk := ?_) | with_reducible refine W.skip ?_ | with_reducible refine W.endb ?_ | with_reducible refine W.block ?_ | refine W.exit rfl ?_ | refine z_l (kk := ?_) | refine z_f (kk := ?_) | refine z_M (kk := ?_) | refine z_m (kk := ?_) | refine z_e (kk := ?_) | refine z_E (kk := ?_) | refine z_d (kk := ?_) | refine z_I (kk := fun _ => ?_) | refine z_J (kk := fun _ => ?_) | refine z_K (kk := fun _ => ?_) | refine z_L (kk := fun _ => ?_) | refine z_T (kk := ?_) | refine z_F (kk := ?_) | refine z_k (kk := fun _ _ _ _ _ => ?_) | refine z_w (kk := fun _ _ => ?_) | refine z_s (kk := fun _ _ _ _ => ?_) | refine z_D (kk := ?_) | refine z_g (kk := ?_) | refine z_h (kk := ?_)))
  refine Ops.call rfl rfl rfl rfl rfl (value_c hT2 (by omega)) (fun r w3 hR => ?_)
  obtain ⟨hb3, hR⟩ := hR
  rw [hg] at hR
  obtain ⟨vs1, hvs1, rfl⟩ := hR
  obtain rfl := hvs1.uniq hTF hvs
  have hb03 := Below.via hb02 hb3
  have hS3 := hS2.below hb3
  obtain ⟨dep', hg'⟩ := hsT.game
  have hTF' := gameOf_TF hg'
  have hval := fun vs' => hsrt.val (vs' := vs') (SS_ord l dep vs1) hTF hTF' hvs
  have hle := fun {vs' : List Int} {p b b' : Nat} (hv' : ValP (sortM l dep vs1) dep' (wor (sortM l dep vs1)) vs') (hp : p < (sortM l dep vs1).length) (hb : b < b') (hb' : b' < (kid (sortM l dep vs1) p).length) => hsrt.le hp hb hb' hTF hTF' hvs hv'
  have hfi := fun {vs' : List Int} {p : Nat} (hv' : ValP (sortM l dep vs1) dep' (wor (sortM l dep vs1)) vs') (hp : p < (sortM l dep vs1).length) (hb : 0 < (kid (sortM l dep vs1) p).length) => hsrt.first hp hb hTF hTF' hvs hv'
  have hsame' := fun vs' => hsame dep' vs' hTF'
  have hhd := hsrt.hd
  clear hsame
  change ∀ vs', ValP (sortM l dep vs1) dep' (wor (sortM l dep vs1)) vs' → sortM (sortM l dep vs1) dep' vs' = sortM l dep vs1 at hsame'
  have hv00 : ∀ vs', ValP (sortM l dep vs1) dep' (wor (sortM l dep vs1)) vs' → vs'.getD 0 0 = vs1.getD 0 0 := fun vs' h => by
    have := hval vs' h 0 (by omega)
    rw [hhd] at this
    exact this
  clear hval hT1 hT2 hS2 hhd hsT hsrt
  generalize sortM l dep vs1 = s at *
  obtain ⟨As, cs, rfl⟩ := hS3.sl
  (repeat (first | with_reducible refine W.seq ?_ | with_reducible refine Ops.nil ?_ | with_reducible refine W.region ?_ | refine z_p (kk := ?_) | refine z_a (kk := ?_) | refine z_y (kk := ?_) | refine z_n (kk := ?_) | refine z_u (kk := ?_) | with_reducible refine W.skip ?_ | with_reducible refine W.endb ?_ | with_reducible refine W.block ?_ | refine W.exit rfl ?_ | refine z_l (kk := ?_) | refine z_f (kk := ?_) | refine z_M (kk := ?_) | refine z_m (kk := ?_) | refine z_e (kk := ?_) | refine z_E (kk := ?_) | refine z_d (kk := ?_) | refine z_I (kk := fun _ => ?_) | refine z_J (kk := fun _ => ?_) | refine z_K (kk := fun _ => ?_) | refine z_L (kk := fun _ => ?_) | refine z_T (kk := ?_) | refine z_F (kk := ?_) | refine z_k (kk := fun _ _ _ _ _ => ?_) | refine z_w (kk := fun _ _ => ?_) | refine z_s (kk := fun _ _ _ _ => ?_) | refine z_D (kk := ?_) | refine z_g (kk := ?_) | refine z_h (kk := ?_)))
  refine Ops.call rfl rfl rfl rfl rfl (refTree_c hS3 (fun i hi => by have := hTF'.klen i hi; omega)) (fun r w4 hR => ?_)
  obtain ⟨rfl, hb4⟩ := hR
  have hb04 := Below.via hb03 hb4
  have hS4 := hS3.below hb4
  rw [hg']
  clear hS3
  (repeat (first | with_reducible refine W.seq ?_ | with_reducible refine Ops.nil ?_ | with_reducible refine W.region ?_ | refine z_p (kk := ?_) | refine z_a (kk := ?_) | refine z_y (kk := ?_) | refine z_n (kk := ?_) | refine z_u (kk := ?_) | with_reducible refine W.skip ?_ | with_reducible refine W.endb ?_ | with_reducible refine W.block ?_ | refine W.exit rfl ?_ | refine z_l (kk := ?_) | refine z_f (kk := ?_) | refine z_M (kk := ?_) | refine z_m (kk := ?_) | refine z_e (kk := ?_) | refine z_E (kk := ?_) | refine z_d (kk := ?_) | refine z_I (kk := fun _ => ?_) | refine z_J (kk := fun _ => ?_) | refine z_K (kk := fun _ => ?_) | refine z_L (kk := fun _ => ?_) | refine z_T (kk := ?_) | refine z_F (kk := ?_) | refine z_k (kk := fun _ _ _ _ _ => ?_) | refine z_w (kk := fun _ _ => ?_) | refine z_s (kk := fun _ _ _ _ => ?_) | refine z_D (kk := ?_) | refine z_g (kk := ?_) | refine z_h (kk := ?_)))
  refine W.condF rfl (by first | rfl | assumption | (simp only [bnf] <;> omega) | (simp only [*, bnf]; done) | fail) ?_
  (repeat (first | with_reducible refine W.seq ?_ | with_reducible refine Ops.nil ?_ | with_reducible refine W.region ?_ | refine z_p (kk := ?_) | refine z_a (kk := ?_) | refine z_y (kk := ?_) | refine z_n (kk := ?_) | refine z_u (kk := ?_) | with_reducible refine W.skip ?_ | with_reducible refine W.endb ?_ | with_reducible refine W.block ?_ | refine W.exit rfl ?_ | refine z_l (kk := ?_) | refine z_f (kk := ?_) | refine z_M (kk := ?_) | refine z_m (kk := ?_) | refine z_e (kk := ?_) | refine z_E (kk := ?_) | refine z_d (kk := ?_) | refine z_I (kk := fun _ => ?_) | refine z_J (kk := fun _ => ?_) | refine z_K (kk := fun _ => ?_) | refine z_L (kk := fun _ => ?_) | refine z_T (kk := ?_) | refine z_F (kk := ?_) | refine z_k (kk := fun _ _ _ _ _ => ?_) | refine z_w (kk := fun _ _ => ?_) | refine z_s (kk := fun _ _ _ _ => ?_) | refine z_D (kk := ?_) | refine z_g (kk := ?_) | refine z_h (kk := ?_)))
  refine Ops.call rfl rfl rfl rfl rfl (valuesF_c hS4 (by omega)) (fun r w5 hR => ?_)
  obtain ⟨hb5, hR⟩ := hR
  rw [hg'] at hR
  obtain ⟨vs', u, hvs', rfl, hI5⟩ := hR
  have hb05 := Below.via hb04 hb5
  have hS5 := hS4.below hb5
  have hu5 : SlI w5 u vs' := hI5.sl
  have hvl' := hvs'.len
  obtain ⟨Au, cu, rfl⟩ := Sl.sl hu5
  clear hI5 hS4
  (repeat (first | with_reducible refine W.seq ?_ | with_reducible refine Ops.nil ?_ | with_reducible refine W.region ?_ | refine z_p (kk := ?_) | refine z_a (kk := ?_) | refine z_y (kk := ?_) | refine z_n (kk := ?_) | refine z_u (kk := ?_) | with_reducible refine W.skip ?_ | with_reducible refine W.endb ?_ | with_reducible refine W.block ?_ | refine W.exit rfl ?_ | refine z_l (kk := ?_) | refine z_f (kk := ?_) | refine z_M (kk := ?_) | refine z_m (kk := ?_) | refine z_e (kk := ?_) | refine z_E (kk := ?_) | refine z_d (kk := ?_) | refine z_I (kk := fun _ => ?_) | refine z_J (kk := fun _ => ?_) | refine z_K (kk := fun _ => ?_) | refine z_L (kk := fun _ => ?_) | refine z_T (kk := ?_) | refine z_F (kk := ?_) | refine z_k (kk := fun _ _ _ _ _ => ?_) | refine z_w (kk := fun _ _ => ?_) | refine z_s (kk := fun _ _ _ _ => ?_) | refine z_D (kk := ?_) | refine z_g (kk := ?_) | refine z_h (kk := ?_)))
  refine Ops.call rfl rfl rfl rfl rfl (sorted_c hS5 (by omega)) (fun r w6 hR => ?_)
  obtain ⟨hb6, hR6⟩ := hR
  have hb06 := Below.via hb05 hb6
  have hS6 := hS5.below hb6
  have hu6 := Sl.below hu5 hb6
  unfold SortR at hR6
  rw [hg'] at hR6
  obtain ⟨vs2, ov2, cvs2, hvs2, rfl, hQ6⟩ := hR6
  obtain rfl := hvs2.uniq hTF' hvs'
  have hA6 := hQ6.treeM
  rw [hsame' _ hvs'] at hA6
  obtain ⟨Aa, ca, rfl⟩ := hA6.sl
  have h00 : vs2.getD (Int.toNat 0) 0 = vs1.getD 0 0 := hv00 _ hvs'
  clear hQ6 hS5 hu5 hsame' hv00
  (repeat (first | with_reducible refine W.seq ?_ | with_reducible refine Ops.nil ?_ | with_reducible refine W.region ?_ | refine z_p (kk := ?_) | refine z_a (kk := ?_) | refine z_y (kk := ?_) | refine z_n (kk := ?_) | refine z_u (kk := ?_) | with_reducible refine W.skip ?_ | with_reducible refine W.endb ?_ | with_reducible refine W.block ?_ | refine W.exit rfl ?_ | refine z_l (kk := ?_) | refine z_f (kk := ?_) | refine z_M (kk := ?_) | refine z_m (kk := ?_) | refine z_e (kk := ?_) | refine z_E (kk := ?_) | refine z_d (kk := ?_) | refine z_I (kk := fun _ => ?_) | refine z_J (kk := fun _ => ?_) | refine z_K (kk := fun _ => ?_) | refine z_L (kk := fun _ => ?_) | refine z_T (kk := ?_) | refine z_F (kk := ?_) | refine z_k (kk := fun _ _ _ _ _ => ?_) | refine z_w (kk := fun _ _ => ?_) | refine z_s (kk := fun _ _ _ _ => ?_) | refine z_D (kk := ?_) | refine z_g (kk := ?_) | refine z_h (kk := ?_)))
  refine Ops.call rfl rfl rfl rfl rfl (trees_c hA6 hS6 (by omega)) (fun r w7 hR => ?_)
  obtain ⟨rfl, hb7⟩ := hR
  have hb07 := Below.via hb06 hb7
  have hS7 := hS6.below hb7
  have hu7 := Sl.below hu6 hb7
  clear hA6 hS6 hu6
  (repeat (first | with_reducible refine W.seq ?_ | with_reducible refine Ops.nil ?_ | with_reducible refine W.region ?_ | refine z_p (kk := ?_) | refine z_a (kk := ?_) | refine z_y (kk := ?_) | refine z_n (kk := ?_) | refine z_u (kk := ?_) | with_reducible refine W.skip ?_ | with_reducible refine W.endb ?_ | with_reducible refine W.block ?_ | refine W.exit rfl ?_ | refine z_l (kk := ?_) | refine z_f (kk := ?_) | refine z_M (kk := ?_) | refine z_m (kk := ?_) | refine z_e (kk := ?_) | refine z_E (kk := ?_) | refine z_d (kk := ?_) | refine z_I (kk := fun _ => ?_) | refine z_J (kk := fun _ => ?_) | refine z_K (kk := fun _ => ?_) | refine z_L (kk := fun _ => ?_) | refine z_T (kk := ?_) | refine z_F (kk := ?_) | refine z_k (kk := fun _ _ _ _ _ => ?_) | refine z_w (kk := fun _ _ => ?_) | refine z_s (kk := fun _ _ _ _ => ?_) | refine z_D (kk := ?_) | refine z_g (kk := ?_) | refine z_h (kk := ?_)))
  refine W.condF rfl (by first | rfl | assumption | (simp only [bnf] <;> omega) | (simp only [*, bnf]; done) | fail) ?_
  (repeat (first | with_reducible refine W.seq ?_ | with_reducible refine Ops.nil ?_ | with_reducible refine W.region ?_ | refine z_p (kk := ?_) | refine z_a (kk := ?_) | refine z_y (kk := ?_) | refine z_n (kk := ?_) | refine z_u (kk := ?_) | with_reducible refine W.skip ?_ | with_reducible refine W.endb ?_ | with_reducible refine W.block ?_ | refine W.exit rfl ?_ | refine z_l (kk := ?_) | refine z_f (kk := ?_) | refine z_M (kk := ?_) | refine z_m (kk := ?_) | refine z_e (kk := ?_) | refine z_E (kk := ?_) | refine z_d (kk := ?_) | refine z_I (kk := fun _ => ?_) | refine z_J (kk := fun _ => ?_) | refine z_K (kk := fun _ => ?_) | refine z_L (kk := fun _ => ?_) | refine z_T (kk := ?_) | refine z_F (kk := ?_) | refine z_k (kk := fun _ _ _ _ _ => ?_) | refine z_w (kk := fun _ _ => ?_) | refine z_s (kk := fun _ _ _ _ => ?_) | refine z_D (kk := ?_) | refine z_g (kk := ?_) | refine z_h (kk := ?_)))
  refine Ops.call rfl rfl rfl rfl rfl (even_c hS7 hTF') (fun r w8 hR => ?_)
  obtain ⟨bs, hE, hel, hev⟩ := hR
  have hb8 := hE.bel
  have hb08 := Below.via hb07 hb8
  have hS8 := hS7.below hb8
  have hu8 := Sl.below hu7 hb8
  have he8 : SlB w8 r bs := hE.sl
  obtain ⟨Ae, ce, rfl⟩ := Sl.sl he8
  clear hE hS7 hu7
  (repeat (first | with_reducible refine W.seq ?_ | with_reducible refine Ops.nil ?_ | with_reducible refine W.region ?_ | refine z_p (kk := ?_) | refine z_a (kk := ?_) | refine z_y (kk := ?_) | refine z_n (kk := ?_) | refine z_u (kk := ?_) | with_reducible refine W.skip ?_ | with_reducible refine W.endb ?_ | with_reducible refine W.block ?_ | refine W.exit rfl ?_ | refine z_l (kk := ?_) | refine z_f (kk := ?_) | refine z_M (kk := ?_) | refine z_m (kk := ?_) | refine z_e (kk := ?_) | refine z_E (kk := ?_) | refine z_d (kk := ?_) | refine z_I (kk := fun _ => ?_) | refine z_J (kk := fun _ => ?_) | refine z_K (kk := fun _ => ?_) | refine z_L (kk := fun _ => ?_) | refine z_T (kk := ?_) | refine z_F (kk := ?_) | refine z_k (kk := fun _ _ _ _ _ => ?_) | refine z_w (kk := fun _ _ => ?_) | refine z_s (kk := fun _ _ _ _ => ?_) | refine z_D (kk := ?_) | refine z_g (kk := ?_) | refine z_h (kk := ?_)))
  refine W.loop (fun m ρ w9 => ∃ (i : Nat), m = s.length - i ∧ i ≤ s.length ∧ ρ = [(6, .slice As s.length cs), (10, .slice Au vs2.length cu), (14, .slice Ae bs.length ce), (15, .int .i64 i)] ∧ Below w8.heap.size w8 w9)
    ⟨_, _, ⟨0, rfl, Nat.zero_le _, rfl, Below.refl _ _⟩, (by repeat (first | exact trivial | refine And.intro rfl ?_))⟩ ?_
  rintro m ρ w9 ⟨i, rfl, hi, rfl, hb89⟩
  (repeat (first | with_reducible refine W.seq ?_ | with_reducible refine Ops.nil ?_ | with_reducible refine W.region ?_ | refine z_p (kk := ?_) | refine z_a (kk := ?_) | refine z_y (kk := ?_) | refine z_n (kk := ?_) | refine z_u (kk := ?_) | with_reducible refine W.skip ?_ | with_reducible refine W.endb ?_ | with_reducible refine W.block ?_ | refine W.exit rfl ?_ | refine z_l (kk := ?_) | refine z_f (kk := ?_) | refine z_M (kk := ?_) | refine z_m (kk := ?_) | refine z_e (kk := ?_) | refine z_E (kk := ?_) | refine z_d (kk := ?_) | refine z_I (kk := fun _ => ?_) | refine z_J (kk := fun _ => ?_) | refine z_K (kk := fun _ => ?_) | refine z_L (kk := fun _ => ?_) | refine z_T (kk := ?_) | refine z_F (kk := ?_) | refine z_k (kk := fun _ _ _ _ _ => ?_) | refine z_w (kk := fun _ _ => ?_) | refine z_s (kk := fun _ _ _ _ => ?_) | refine z_D (kk := ?_) | refine z_g (kk := ?_) | refine z_h (kk := ?_)))
  (first | refine W.condD rfl (fun hc => ?_) (fun hc => ?_) | refine W.condE rfl (fun hc => ?_) (fun hc => ?_) | refine W.condN rfl (fun hc => ?_) (fun hc => ?_) | refine W.cond rfl (fun hc => ?_) (fun hc => ?_))
  · have hil : i < s.length := by omega
    have hkl := hTF'.klen i hil
    have hkin := hTF'.kin i
    have hfi' := fun hb => hfi hvs' hil hb
    have hle' := fun {b b'} => hle (b := b) (b' := b') hvs' hil
    have heb := hev i hil
    (repeat (first | with_reducible refine W.seq ?_ | with_reducible refine Ops.nil ?_ | with_reducible refine W.region ?_ | refine z_p (kk := ?_) | refine z_a (kk := ?_) | refine z_y (kk := ?_) | refine z_n (kk := ?_) | refine z_u (kk := ?_) | with_reducible refine W.skip ?_ | with_reducible refine W.endb ?_ | with_reducible refine W.block ?_ | refine W.exit rfl ?_ | refine z_l (kk := ?_) | refine z_f (kk := ?_) | refine z_M (kk := ?_) | refine z_m (kk := ?_) | refine z_e (kk := ?_) | refine z_E (kk := ?_) | refine z_d (kk := ?_) | refine z_I (kk := fun _ => ?_) | refine z_J (kk := fun _ => ?_) | refine z_K (kk := fun _ => ?_) | refine z_L (kk := fun _ => ?_) | refine z_T (kk := ?_) | refine z_F (kk := ?_) | refine z_k (kk := fun _ _ _ _ _ => ?_) | refine z_w (kk := fun _ _ => ?_) | refine z_s (kk := fun _ _ _ _ => ?_) | refine z_D (kk := ?_) | refine z_g (kk := ?_) | refine z_h (kk := ?_)))
    rename_i Ak ck _ _ hks
    refine W.loop (fun m ρ w10 => ∃ (k : Nat), m = (kid s i).length - k ∧ k ≤ (kid s i).length ∧ ρ = [(6, .slice As s.length cs), (10, .slice Au vs2.length cu), (14, .slice Ae bs.length ce), (15, .int .i64 i), (16, .slice Ak (kid s i).length ck), (17, .int .i64 k)] ∧ Below w8.heap.size w8 w10)
      ⟨_, _, ⟨0, rfl, Nat.zero_le _, rfl, hb89⟩, (by repeat (first | exact trivial | refine And.intro rfl ?_))⟩ ?_
    rintro m ρ w10 ⟨k, rfl, hk, rfl, hb810⟩
    (repeat (first | with_reducible refine W.seq ?_ | with_reducible refine Ops.nil ?_ | with_reducible refine W.region ?_ | refine z_p (kk := ?_) | refine z_a (kk := ?_) | refine z_y (kk := ?_) | refine z_n (kk := ?_) | refine z_u (kk := ?_) | with_reducible refine W.skip ?_ | with_reducible refine W.endb ?_ | with_reducible refine W.block ?_ | refine W.exit rfl ?_ | refine z_l (kk := ?_) | refine z_f (kk := ?_) | refine z_M (kk := ?_) | refine z_m (kk := ?_) | refine z_e (kk := ?_) | refine z_E (kk := ?_) | refine z_d (kk := ?_) | refine z_I (kk := fun _ => ?_) | refine z_J (kk := fun _ => ?_) | refine z_K (kk := fun _ => ?_) | refine z_L (kk := fun _ => ?_) | refine z_T (kk := ?_) | refine z_F (kk := ?_) | refine z_k (kk := fun _ _ _ _ _ => ?_) | refine z_w (kk := fun _ _ => ?_) | refine z_s (kk := fun _ _ _ _ => ?_) | refine z_D (kk := ?_) | refine z_g (kk := ?_) | refine z_h (kk := ?_)))
    (first | refine W.condD rfl (fun hc => ?_) (fun hc => ?_) | refine W.condE rfl (fun hc => ?_) (fun hc => ?_) | refine W.condN rfl (fun hc => ?_) (fun hc => ?_) | refine W.cond rfl (fun hc => ?_) (fun hc => ?_))
    · have hkk : k < (kid s i).length := by omega
      have hk1 := hkin k hil hkk
      simp only [k_] at hk1
      have hks10 := Sl.below hks hb810
      have hu10 := Sl.below hu8 hb810
      have he10 := Sl.below he8 hb810
      (repeat (first | with_reducible refine W.seq ?_ | with_reducible refine Ops.nil ?_ | with_reducible refine W.region ?_ | refine z_p (kk := ?_) | refine z_a (kk := ?_) | refine z_y (kk := ?_) | refine z_n (kk := ?_) | refine z_u (kk := ?_) | with_reducible refine W.skip ?_ | with_reducible refine W.endb ?_ | with_reducible refine W.block ?_ | refine W.exit rfl ?_ | refine z_l (kk := ?_) | refine z_f (kk := ?_) | refine z_M (kk := ?_) | refine z_m (kk := ?_) | refine z_e (kk := ?_) | refine z_E (kk := ?_) | refine z_d (kk := ?_) | refine z_I (kk := fun _ => ?_) | refine z_J (kk := fun _ => ?_) | refine z_K (kk := fun _ => ?_) | refine z_L (kk := fun _ => ?_) | refine z_T (kk := ?_) | refine z_F (kk := ?_) | refine z_k (kk := fun _ _ _ _ _ => ?_) | refine z_w (kk := fun _ _ => ?_) | refine z_s (kk := fun _ _ _ _ => ?_) | refine z_D (kk := ?_) | refine z_g (kk := ?_) | refine z_h (kk := ?_)))
      refine W.ordA 99 [(0, 1), (1, 1), (2, 1), (3, 1), (4, 1), (5, 1), (6, 1), (7, 2), (8, 1), (9, 2), (10, 1), (11, 1), (12, 1), (13, 2), (14, 1), (15, 1), (16, 1), (17, 1), (18, 1), (19, 1), (20, 1), (21, 1), (22, 1), (23, 2), (24, 1), (25, 1), (26, 1), (27, 1), (28, 1), (29, 1), (30, 2), (31, 1), (32, 2), (33, 1), (34, 1), (35, 1), (36, 1), (37, 2), (38, 1), (39, 2), (40, 1), (41, 1), (42, 1), (43, 1), (44, 1), (45, 1), (46, 2), (47, 1), (48, 1), (49, 1), (50, 1), (51, 1), (52, 1), (53, 1), (54, 2), (55, 1), (56, 2), (57, 1), (58, 1), (59, 1), (60, 1), (61, 2), (62, 1), (63, 2), (64, 1), (65, 1), (66, 1), (67, 1), (68, 1)] rfl (by kernel_rfl) rfl (by kernel_rfl) (fun _ _ _ h => h) ?_
      by_cases hk0 : k = 0
      · subst hk0
        have hf := hfi' hkk
        simp only [k_, rd] at hf
        (repeat (first | refine x_p (kk := ?_) | refine x_n (kk := ?_) | refine x_a (kk := ?_) | refine x_l (kk := ?_) | refine x_M (kk := ?_) | refine x_m (kk := ?_) | refine x_e (kk := ?_) | refine x_E (kk := ?_) | refine x_T (kk := ?_) | refine x_F (kk := ?_) | refine x_I (kk := fun _ => ?_) | refine x_J (kk := fun _ => ?_) | refine x_K (kk := fun _ => ?_) | refine x_L (kk := fun _ => ?_) | refine x_k (kk := fun _ _ _ _ _ => ?_) | refine x_w (kk := fun _ _ => ?_) | refine x_s (kk := fun _ _ _ _ => ?_)))
        (first | refine x_t (kk := ?_) | refine x_f (kk := ?_))
        (repeat (first | refine x_p (kk := ?_) | refine x_n (kk := ?_) | refine x_a (kk := ?_) | refine x_l (kk := ?_) | refine x_M (kk := ?_) | refine x_m (kk := ?_) | refine x_e (kk := ?_) | refine x_E (kk := ?_) | refine x_T (kk := ?_) | refine x_F (kk := ?_) | refine x_I (kk := fun _ => ?_) | refine x_J (kk := fun _ => ?_) | refine x_K (kk := fun _ => ?_) | refine x_L (kk := fun _ => ?_) | refine x_k (kk := fun _ _ _ _ _ => ?_) | refine x_w (kk := fun _ _ => ?_) | refine x_s (kk := fun _ _ _ _ => ?_)))
        refine OrdA.nil (fun w11 hb11 => ?_)
        have hb811 := Below.via hb810 hb11
        (repeat (first | with_reducible refine W.seq ?_ | with_reducible refine Ops.nil ?_ | with_reducible refine W.region ?_ | refine z_p (kk := ?_) | refine z_a (kk := ?_) | refine z_y (kk := ?_) | refine z_n (kk := ?_) | refine z_u (kk := ?_) | with_reducible refine W.skip ?_ | with_reducible refine W.endb ?_ | with_reducible refine W.block ?_ | refine W.exit rfl ?_ | refine z_l (kk := ?_) | refine z_f (kk := ?_) | refine z_M (kk := ?_) | refine z_m (kk := ?_) | refine z_e (kk := ?_) | refine z_E (kk := ?_) | refine z_d (kk := ?_) | refine z_I (kk := fun _ => ?_) | refine z_J (kk := fun _ => ?_) | refine z_K (kk := fun _ => ?_) | refine z_L (kk := fun _ => ?_) | refine z_T (kk := ?_) | refine z_F (kk := ?_) | refine z_k (kk := fun _ _ _ _ _ => ?_) | refine z_w (kk := fun _ _ => ?_) | refine z_s (kk := fun _ _ _ _ => ?_) | refine z_D (kk := ?_) | refine z_g (kk := ?_) | refine z_h (kk := ?_)))
        refine W.condF rfl (by first | rfl | assumption | (simp only [bnf] <;> omega) | (simp only [*, bnf]; done) | fail) ?_
        (repeat (first | with_reducible refine W.seq ?_ | with_reducible refine Ops.nil ?_ | with_reducible refine W.region ?_ | refine z_p (kk := ?_) | refine z_a (kk := ?_) | refine z_y (kk := ?_) | refine z_n (kk := ?_) | refine z_u (kk := ?_) | with_reducible refine W.skip ?_ | with_reducible refine W.endb ?_ | with_reducible refine W.block ?_ | refine W.exit rfl ?_ | refine z_l (kk := ?_) | refine z_f (kk := ?_) | refine z_M (kk := ?_) | refine z_m (kk := ?_) | refine z_e (kk := ?_) | refine z_E (kk := ?_) | refine z_d (kk := ?_) | refine z_I (kk := fun _ => ?_) | refine z_J (kk := fun _ => ?_) | refine z_K (kk := fun _ => ?_) | refine z_L (kk := fun _ => ?_) | refine z_T (kk := ?_) | refine z_F (kk := ?_) | refine z_k (kk := fun _ _ _ _ _ => ?_) | refine z_w (kk := fun _ _ => ?_) | refine z_s (kk := fun _ _ _ _ => ?_) | refine z_D (kk := ?_) | refine z_g (kk := ?_) | refine z_h (kk := ?_)))
        exact W.endl ⟨_, _, ⟨⟨0 + 1, rfl, by omega, rfl, hb811⟩, by omega⟩, (by repeat (first | exact trivial | refine And.intro rfl ?_))⟩
      · obtain ⟨q, rfl⟩ : ∃ q, k = q + 1 := ⟨k - 1, by omega⟩
        have eq1 : (((q + 1 : Nat) : Int) - 1).toNat = q := by omega
        have hk2 := hkin q hil (by omega)
        simp only [k_] at hk2
        have hq := hle' (show q < q + 1 by omega) hkk
        simp only [k_, rd, sg] at hq
        have hk2x : (i : Int) < (kid s i).getD (((q + 1 : Nat) : Int) - 1).toNat 0 ∧ (kid s i).getD (((q + 1 : Nat) : Int) - 1).toNat 0 < s.length := by rw [eq1]; exact hk2
        cases hevc : evB dep' i with
        | true =>
          have hqx : ¬ (vs2.getD ((kid s i).getD (((q + 1 : Nat) : Int) - 1).toNat 0).toNat 0 < vs2.getD ((kid s i).getD (q + 1) 0).toNat 0) := by rw [eq1]; rw [if_pos hevc] at hq; omega
          rw [hevc] at heb
          (repeat (first | refine x_p (kk := ?_) | refine x_n (kk := ?_) | refine x_a (kk := ?_) | refine x_l (kk := ?_) | refine x_M (kk := ?_) | refine x_m (kk := ?_) | refine x_e (kk := ?_) | refine x_E (kk := ?_) | refine x_T (kk := ?_) | refine x_F (kk := ?_) | refine x_I (kk := fun _ => ?_) | refine x_J (kk := fun _ => ?_) | refine x_K (kk := fun _ => ?_) | refine x_L (kk := fun _ => ?_) | refine x_k (kk := fun _ _ _ _ _ => ?_) | refine x_w (kk := fun _ _ => ?_) | refine x_s (kk := fun _ _ _ _ => ?_)))
          (first | refine x_t (kk := ?_) | refine x_f (kk := ?_))
          (repeat (first | refine x_p (kk := ?_) | refine x_n (kk := ?_) | refine x_a (kk := ?_) | refine x_l (kk := ?_) | refine x_M (kk := ?_) | refine x_m (kk := ?_) | refine x_e (kk := ?_) | refine x_E (kk := ?_) | refine x_T (kk := ?_) | refine x_F (kk := ?_) | refine x_I (kk := fun _ => ?_) | refine x_J (kk := fun _ => ?_) | refine x_K (kk := fun _ => ?_) | refine x_L (kk := fun _ => ?_) | refine x_k (kk := fun _ _ _ _ _ => ?_) | refine x_w (kk := fun _ _ => ?_) | refine x_s (kk := fun _ _ _ _ => ?_)))
          (first | refine x_t (kk := ?_) | refine x_f (kk := ?_))
          (repeat (first | refine x_p (kk := ?_) | refine x_n (kk := ?_) | refine x_a (kk := ?_) | refine x_l (kk := ?_) | refine x_M (kk := ?_) | refine x_m (kk := ?_) | refine x_e (kk := ?_) | refine x_E (kk := ?_) | refine x_T (kk := ?_) | refine x_F (kk := ?_) | refine x_I (kk := fun _ => ?_) | refine x_J (kk := fun _ => ?_) | refine x_K (kk := fun _ => ?_) | refine x_L (kk := fun _ => ?_) | refine x_k (kk := fun _ _ _ _ _ => ?_) | refine x_w (kk := fun _ _ => ?_) | refine x_s (kk := fun _ _ _ _ => ?_)))
          (first | refine x_t (kk := ?_) | refine x_f (kk := ?_))
          (repeat (first | refine x_p (kk := ?_) | refine x_n (kk := ?_) | refine x_a (kk := ?_) | refine x_l (kk := ?_) | refine x_M (kk := ?_) | refine x_m (kk := ?_) | refine x_e (kk := ?_) | refine x_E (kk := ?_) | refine x_T (kk := ?_) | refine x_F (kk := ?_) | refine x_I (kk := fun _ => ?_) | refine x_J (kk := fun _ => ?_) | refine x_K (kk := fun _ => ?_) | refine x_L (kk := fun _ => ?_) | refine x_k (kk := fun _ _ _ _ _ => ?_) | refine x_w (kk := fun _ _ => ?_) | refine x_s (kk := fun _ _ _ _ => ?_)))
          (first | refine x_t (kk := ?_) | refine x_f (kk := ?_))
          (repeat (first | refine x_p (kk := ?_) | refine x_n (kk := ?_) | refine x_a (kk := ?_) | refine x_l (kk := ?_) | refine x_M (kk := ?_) | refine x_m (kk := ?_) | refine x_e (kk := ?_) | refine x_E (kk := ?_) | refine x_T (kk := ?_) | refine x_F (kk := ?_) | refine x_I (kk := fun _ => ?_) | refine x_J (kk := fun _ => ?_) | refine x_K (kk := fun _ => ?_) | refine x_L (kk := fun _ => ?_) | refine x_k (kk := fun _ _ _ _ _ => ?_) | refine x_w (kk := fun _ _ => ?_) | refine x_s (kk := fun _ _ _ _ => ?_)))
          refine OrdA.nil (fun w11 hb11 => ?_)
          have hb811 := Below.via hb810 hb11
          (repeat (first | with_reducible refine W.seq ?_ | with_reducible refine Ops.nil ?_ | with_reducible refine W.region ?_ | refine z_p (kk := ?_) | refine z_a (kk := ?_) | refine z_y (kk := ?_) | refine z_n (kk := ?_) | refine z_u (kk := ?_) | with_reducible refine W.skip ?_ | with_reducible refine W.endb ?_ | with_reducible refine W.block ?_ | refine W.exit rfl ?_ | refine z_l (kk := ?_) | refine z_f (kk := ?_) | refine z_M (kk := ?_) | refine z_m (kk := ?_) | refine z_e (kk := ?_) | refine z_E (kk := ?_) | refine z_d (kk := ?_) | refine z_I (kk := fun _ => ?_) | refine z_J (kk := fun _ => ?_) | refine z_K (kk := fun _ => ?_) | refine z_L (kk := fun _ => ?_) | refine z_T (kk := ?_) | refine z_F (kk := ?_) | refine z_k (kk := fun _ _ _ _ _ => ?_) | refine z_w (kk := fun _ _ => ?_) | refine z_s (kk := fun _ _ _ _ => ?_) | refine z_D (kk := ?_) | refine z_g (kk := ?_) | refine z_h (kk := ?_)))
          refine W.condF rfl (by first | rfl | assumption | (simp only [bnf] <;> omega) | (simp only [*, bnf]; done) | fail) ?_
          (repeat (first | with_reducible refine W.seq ?_ | with_reducible refine Ops.nil ?_ | with_reducible refine W.region ?_ | refine z_p (kk := ?_) | refine z_a (kk := ?_) | refine z_y (kk := ?_) | refine z_n (kk := ?_) | refine z_u (kk := ?_) | with_reducible refine W.skip ?_ | with_reducible refine W.endb ?_ | with_reducible refine W.block ?_ | refine W.exit rfl ?_ | refine z_l (kk := ?_) | refine z_f (kk := ?_) | refine z_M (kk := ?_) | refine z_m (kk := ?_) | refine z_e (kk := ?_) | refine z_E (kk := ?_) | refine z_d (kk := ?_) | refine z_I (kk := fun _ => ?_) | refine z_J (kk := fun _ => ?_) | refine z_K (kk := fun _ => ?_) | refine z_L (kk := fun _ => ?_) | refine z_T (kk := ?_) | refine z_F (kk := ?_) | refine z_k (kk := fun _ _ _ _ _ => ?_) | refine z_w (kk := fun _ _ => ?_) | refine z_s (kk := fun _ _ _ _ => ?_) | refine z_D (kk := ?_) | refine z_g (kk := ?_) | refine z_h (kk := ?_)))
          exact W.endl ⟨_, _, ⟨⟨q + 1 + 1, rfl, by omega, rfl, hb811⟩, by omega⟩, (by repeat (first | exact trivial | refine And.intro rfl ?_))⟩
        | false =>
          have hqx : ¬ (vs2.getD ((kid s i).getD (((q + 1 : Nat) : Int) - 1).toNat 0).toNat 0 > vs2.getD ((kid s i).getD (q + 1) 0).toNat 0) := by rw [eq1]; rw [if_neg (by rw [hevc]; decide)] at hq; omega
          rw [hevc] at heb
          (repeat (first | refine x_p (kk := ?_) | refine x_n (kk := ?_) | refine x_a (kk := ?_) | refine x_l (kk := ?_) | refine x_M (kk := ?_) | refine x_m (kk := ?_) | refine x_e (kk := ?_) | refine x_E (kk := ?_) | refine x_T (kk := ?_) | refine x_F (kk := ?_) | refine x_I (kk := fun _ => ?_) | refine x_J (kk := fun _ => ?_) | refine x_K (kk := fun _ => ?_) | refine x_L (kk := fun _ => ?_) | refine x_k (kk := fun _ _ _ _ _ => ?_) | refine x_w (kk := fun _ _ => ?_) | refine x_s (kk := fun _ _ _ _ => ?_)))
          (first | refine x_t (kk := ?_) | refine x_f (kk := ?_))
          (repeat (first | refine x_p (kk := ?_) | refine x_n (kk := ?_) | refine x_a (kk := ?_) | refine x_l (kk := ?_) | refine x_M (kk := ?_) | refine x_m (kk := ?_) | refine x_e (kk := ?_) | refine x_E (kk := ?_) | refine x_T (kk := ?_) | refine x_F (kk := ?_) | refine x_I (kk := fun _ => ?_) | refine x_J (kk := fun _ => ?_) | refine x_K (kk := fun _ => ?_) | refine x_L (kk := fun _ => ?_) | refine x_k (kk := fun _ _ _ _ _ => ?_) | refine x_w (kk := fun _ _ => ?_) | refine x_s (kk := fun _ _ _ _ => ?_)))
          (first | refine x_t (kk := ?_) | refine x_f (kk := ?_))
          (repeat (first | refine x_p (kk := ?_) | refine x_n (kk := ?_) | refine x_a (kk := ?_) | refine x_l (kk := ?_) | refine x_M (kk := ?_) | refine x_m (kk := ?_) | refine x_e (kk := ?_) | refine x_E (kk := ?_) | refine x_T (kk := ?_) | refine x_F (kk := ?_) | refine x_I (kk := fun _ => ?_) | refine x_J (kk := fun _ => ?_) | refine x_K (kk := fun _ => ?_) | refine x_L (kk := fun _ => ?_) | refine x_k (kk := fun _ _ _ _ _ => ?_) | refine x_w (kk := fun _ _ => ?_) | refine x_s (kk := fun _ _ _ _ => ?_)))
          (first | refine x_t (kk := ?_) | refine x_f (kk := ?_))
          (repeat (first | refine x_p (kk := ?_) | refine x_n (kk := ?_) | refine x_a (kk := ?_) | refine x_l (kk := ?_) | refine x_M (kk := ?_) | refine x_m (kk := ?_) | refine x_e (kk := ?_) | refine x_E (kk := ?_) | refine x_T (kk := ?_) | refine x_F (kk := ?_) | refine x_I (kk := fun _ => ?_) | refine x_J (kk := fun _ => ?_) | refine x_K (kk := fun _ => ?_) | refine x_L (kk := fun _ => ?_) | refine x_k (kk := fun _ _ _ _ _ => ?_) | refine x_w (kk := fun _ _ => ?_) | refine x_s (kk := fun _ _ _ _ => ?_)))
          refine OrdA.nil (fun w11 hb11 => ?_)
          have hb811 := Below.via hb810 hb11
          (repeat (first | with_reducible refine W.seq ?_ | with_reducible refine Ops.nil ?_ | with_reducible refine W.region ?_ | refine z_p (kk := ?_) | refine z_a (kk := ?_) | refine z_y (kk := ?_) | refine z_n (kk := ?_) | refine z_u (kk := ?_) | with_reducible refine W.skip ?_ | with_reducible refine W.endb ?_ | with_reducible refine W.block ?_ | refine W.exit rfl ?_ | refine z_l (kk := ?_) | refine z_f (kk := ?_) | refine z_M (kk := ?_) | refine z_m (kk := ?_) | refine z_e (kk := ?_) | refine z_E (kk := ?_) | refine z_d (kk := ?_) | refine z_I (kk := fun _ => ?_) | refine z_J (kk := fun _ => ?_) | refine z_K (kk := fun _ => ?_) | refine z_L (kk := fun _ => ?_) | refine z_T (kk := ?_) | refine z_F (kk := ?_) | refine z_k (kk := fun _ _ _ _ _ => ?_) | refine z_w (kk := fun _ _ => ?_) | refine z_s (kk := fun _ _ _ _ => ?_) | refine z_D (kk := ?_) | refine z_g (kk := ?_) | refine z_h (kk := ?_)))
          refine W.condF rfl (by first | rfl | assumption | (simp only [bnf] <;> omega) | (simp only [*, bnf]; done) | fail) ?_
          (repeat (first | with_reducible refine W.seq ?_ | with_reducible refine Ops.nil ?_ | with_reducible refine W.region ?_ | refine z_p (kk := ?_) | refine z_a (kk := ?_) | refine z_y (kk := ?_) | refine z_n (kk := ?_) | refine z_u (kk := ?_) | with_reducible refine W.skip ?_ | with_reducible refine W.endb ?_ | with_reducible refine W.block ?_ | refine W.exit rfl ?_ | refine z_l (kk := ?_) | refine z_f (kk := ?_) | refine z_M (kk := ?_) | refine z_m (kk := ?_) | refine z_e (kk := ?_) | refine z_E (kk := ?_) | refine z_d (kk := ?_) | refine z_I (kk := fun _ => ?_) | refine z_J (kk := fun _ => ?_) | refine z_K (kk := fun _ => ?_) | refine z_L (kk := fun _ => ?_) | refine z_T (kk := ?_) | refine z_F (kk := ?_) | refine z_k (kk := fun _ _ _ _ _ => ?_) | refine z_w (kk := fun _ _ => ?_) | refine z_s (kk := fun _ _ _ _ => ?_) | refine z_D (kk := ?_) | refine z_g (kk := ?_) | refine z_h (kk := ?_)))
          exact W.endl ⟨_, _, ⟨⟨q + 1 + 1, rfl, by omega, rfl, hb811⟩, by omega⟩, (by repeat (first | exact trivial | refine And.intro rfl ?_))⟩
    · have hkk : k = (kid s i).length := by omega
      (repeat (first | with_reducible refine W.seq ?_ | with_reducible refine Ops.nil ?_ | with_reducible refine W.region ?_ | refine z_p (kk := ?_) | refine z_a (kk := ?_) | refine z_y (kk := ?_) | refine z_n (kk := ?_) | refine z_u (kk := ?_) | with_reducible refine W.skip ?_ | with_reducible refine W.endb ?_ | with_reducible refine W.block ?_ | refine W.exit rfl ?_ | refine z_l (kk := ?_) | refine z_f (kk := ?_) | refine z_M (kk := ?_) | refine z_m (kk := ?_) | refine z_e (kk := ?_) | refine z_E (kk := ?_) | refine z_d (kk := ?_) | refine z_I (kk := fun _ => ?_) | refine z_J (kk := fun _ => ?_) | refine z_K (kk := fun _ => ?_) | refine z_L (kk := fun _ => ?_) | refine z_T (kk := ?_) | refine z_F (kk := ?_) | refine z_k (kk := fun _ _ _ _ _ => ?_) | refine z_w (kk := fun _ _ => ?_) | refine z_s (kk := fun _ _ _ _ => ?_) | refine z_D (kk := ?_) | refine z_g (kk := ?_) | refine z_h (kk := ?_)))
      exact W.endl ⟨_, _, ⟨⟨i + 1, rfl, by omega, rfl, hb810⟩, by omega⟩, (by repeat (first | exact trivial | refine And.intro rfl ?_))⟩
  · have hb09 := Below.via hb08 hb89
    (repeat (first | with_reducible refine W.seq ?_ | with_reducible refine Ops.nil ?_ | with_reducible refine W.region ?_ | refine z_p (kk := ?_) | refine z_a (kk := ?_) | refine z_y (kk := ?_) | refine z_n (kk := ?_) | refine z_u (kk := ?_) | with_reducible refine W.skip ?_ | with_reducible refine W.endb ?_ | with_reducible refine W.block ?_ | refine W.exit rfl ?_ | refine z_l (kk := ?_) | refine z_f (kk := ?_) | refine z_M (kk := ?_) | refine z_m (kk := ?_) | refine z_e (kk := ?_) | refine z_E (kk := ?_) | refine z_d (kk := ?_) | refine z_I (kk := fun _ => ?_) | refine z_J (kk := fun _ => ?_) | refine z_K (kk := fun _ => ?_) | refine z_L (kk := fun _ => ?_) | refine z_T (kk := ?_) | refine z_F (kk := ?_) | refine z_k (kk := fun _ _ _ _ _ => ?_) | refine z_w (kk := fun _ _ => ?_) | refine z_s (kk := fun _ _ _ _ => ?_) | refine z_D (kk := ?_) | refine z_g (kk := ?_) | refine z_h (kk := ?_)))
    refine Ops.call rfl rfl rfl rfl rfl (awake_c _) (fun r w11 hR => ?_)
    obtain ⟨rfl, hb11⟩ := hR
    (repeat (first | with_reducible refine W.seq ?_ | with_reducible refine Ops.nil ?_ | with_reducible refine W.region ?_ | refine z_p (kk := ?_) | refine z_a (kk := ?_) | refine z_y (kk := ?_) | refine z_n (kk := ?_) | refine z_u (kk := ?_) | with_reducible refine W.skip ?_ | with_reducible refine W.endb ?_ | with_reducible refine W.block ?_ | refine W.exit rfl ?_ | refine z_l (kk := ?_) | refine z_f (kk := ?_) | refine z_M (kk := ?_) | refine z_m (kk := ?_) | refine z_e (kk := ?_) | refine z_E (kk := ?_) | refine z_d (kk := ?_) | refine z_I (kk := fun _ => ?_) | refine z_J (kk := fun _ => ?_) | refine z_K (kk := fun _ => ?_) | refine z_L (kk := fun _ => ?_) | refine z_T (kk := ?_) | refine z_F (kk := ?_) | refine z_k (kk := fun _ _ _ _ _ => ?_) | refine z_w (kk := fun _ _ => ?_) | refine z_s (kk := fun _ _ _ _ => ?_) | refine z_D (kk := ?_) | refine z_g (kk := ?_) | refine z_h (kk := ?_)))
    exact W.fret rfl ⟨rfl, Below.via hb09 hb11⟩
end Go.Proofs.Ytdiljpnfochndaa
/- Arguments as the walks read them. -/
namespace Go.Proofs.Ytdiljpnfochndaa.VW
open Go Go.RowKit
theorem sl_open {w : World} {x : Addr} {len cap : Nat} {zs : List Int} (hl : len ≤ cap) (hm : cap ≤ maxLen) (hz : zs.length = cap) (hc : ∀ i, i < zs.length → w.cell? (x.add i) = some (.int .i64 (zs.getD i 0))) : SlI w (.slice (some x) len cap) (zs.take len) := by
  have hlen : (zs.take len).length = len := by rw [List.length_take]; omega
  refine ⟨by rw [hlen]; simp only [maxLen] at hm; omega, some x, cap, by rw [hlen], fun _ => ⟨x, rfl, fun j hj => ?_⟩⟩
  rw [hlen] at hj
  rw [hc j (by omega)]
  simp [List.getD_eq_getElem?_getD, List.getElem?_take, hj]
end Go.Proofs.Ytdiljpnfochndaa.VW
/- Trees and lists among the arguments. -/
namespace Go.Proofs.Ytdiljpnfochndaa
open Go Go.RowKit Go.ChangeShapes Go.Proofs.Ytdiljpnfochndaa.VW
open Go.Proofs.Ytdiljpnfochndaa.HP (Nd kid wor)
theorem arg_open {w : World} {x : Addr} {len cap : Nat} {zs : List Int} (hl : len ≤ cap) (hm : cap ≤ maxLen) (hz : zs.length = cap) (hc : ∀ i, i < zs.length → w.cell? (x.add i) = some (.int .i64 (zs.getD i 0))) : Arg w (.slice (some x) len cap) (zs.take len) := by
  have hlen : (zs.take len).length = len := by rw [List.length_take]; omega
  exact ⟨sl_open hl hm hz hc, some x, cap, by rw [hlen], by omega⟩
theorem ints_arg {H : Type} {enc : TypeId × Value → H} {P : Program} {W : World} {t e : TypeId} {fuel : Nat} {v : Value} {x : DataW H × List MemPlace} (ht : P.underlying t = some (.slice e)) (he : P.underlying e = some (.int .i64)) (hc : P.cellsOf e = 1)
    (h : DataW.trod enc P W 0 (fun _ => true) true fuel t [v] = some x) : ∃ zs, Arg W v zs := by
  rcases open_ints ht he hc h with ⟨hcs, _⟩ | ⟨x, l, c, zs, hcs, _, hl, hm, hz, _, hcell, hwz⟩
  · simp at hcs
    subst hcs
    exact ⟨[], Sl.nil _ _ _ _ _, none, 0, rfl, Nat.le_refl _⟩
  · simp at hcs
    subst hcs
    exact ⟨_, arg_open hl hm (by simpa using hz) hcell⟩
theorem moves_arg {H : Type} {enc : TypeId × Value → H} {P : Program} {W : World} {t m s e : TypeId} {fuel : Nat} {v : Value} {x : DataW H × List MemPlace} {fs : Array Field} {f0 f1 : Field} (ht : P.underlying t = some (.slice m)) (hm : P.underlying m = some (.struct fs)) (hcm : P.cellsOf m = 2)
    (h0 : fs[0]? = some f0) (h1 : fs[1]? = some f1) (o0 : f0.offset = 0) (o1 : f1.offset = 1) (t0 : f0.type = s) (t1 : f1.type = e) (hs : P.underlying s = some (.slice e)) (he : P.underlying e = some (.int .i64)) (hcs : P.cellsOf s = 1) (hce : P.cellsOf e = 1)
    (h : DataW.trod enc P W 0 (fun _ => true) true fuel t [v] = some x) : ∃ l, ArgT W v l := by
  rcases DataW.trod_slice ht h with ⟨hv, _⟩ | ⟨a, len, cap, elems, rest, n, _, hv, _, hb, hl, hm2, hlen, hel, _, _⟩
  · simp at hv
    subst hv
    refine ⟨[], ⟨none, 0, [], rfl, fun h => by simp at h, fun j hj => by simp at hj⟩, by simp, fun i h1 h2 => by simp at h2; omega⟩
  · simp at hv
    subst hv
    have each : ∀ i, i < len → ∃ (cv : Value) (xs : List Int) (z : Int), W.cell? (a.add (i * 2)) = some cv ∧ W.cell? ((a.add (i * 2)).add 1) = some (.int .i64 z) ∧ Arg W cv xs := by
      intro i hi
      have hy := hel i hi
      rw [List.getElem?_eq_getElem (by omega), hcm, Option.bind_eq_some_iff] at hy
      obtain ⟨cs, hcs2, hst⟩ := hy
      obtain ⟨_, hcl, hcc⟩ := World.cells?_some hcs2
      obtain ⟨xs, n', _, _, _, hxl, hfld⟩ := DataW.trod_struct hm hst
      have q0 := hfld 0 f0 h0
      have q1 := hfld 1 f1 h1
      have hfs : 2 ≤ fs.size := by have := (Array.getElem?_eq_some_iff.1 h1).1; omega
      rw [o0, t0, hcs, List.getElem?_eq_getElem (by omega)] at q0
      rw [o1, t1, hce, List.getElem?_eq_getElem (by omega)] at q1
      obtain ⟨c0, c1, rfl⟩ : ∃ c0 c1, cs = [c0, c1] := by
        match cs, hcl with
        | [c0, c1], _ => exact ⟨c0, c1, rfl⟩
      simp only [List.drop_zero, List.take_succ_cons, List.take_zero] at q0
      simp only [List.drop_succ_cons, List.drop_zero, List.take_succ_cons, List.take_zero] at q1
      obtain ⟨zs, hz⟩ := ints_arg hs he hce q0
      obtain ⟨z, hz1, _, _⟩ := DataW.trod_int he q1
      simp at hz1
      subst hz1
      have g0 := hcc 0 (by omega)
      have g1 := hcc 1 (by omega)
      simp only [List.getElem?_cons_zero, List.getElem?_cons_succ] at g0 g1
      rw [show ∀ p : Addr, p.add 0 = p from add_zero'] at g0
      exact ⟨c0, zs, z, g0, g1, hz⟩
    have hx : ∀ i, ∃ q : Value × List Int × Int, i < len → W.cell? (a.add (i * 2)) = some q.1 ∧ W.cell? ((a.add (i * 2)).add 1) = some (.int .i64 q.2.2) ∧ Arg W q.1 q.2.1 := fun i => by
      by_cases hi : i < len
      · obtain ⟨cv, xs, z, g⟩ := each i hi
        exact ⟨⟨cv, xs, z⟩, fun _ => g⟩
      · exact ⟨⟨undef, [], 0⟩, fun h => absurd h hi⟩
    let q : Nat → Value × List Int × Int := fun i => Classical.choose (hx i)
    have hq : ∀ i, i < len → W.cell? (a.add (i * 2)) = some (q i).1 ∧ W.cell? ((a.add (i * 2)).add 1) = some (.int .i64 (q i).2.2) ∧ Arg W (q i).1 (q i).2.1 := fun i => Classical.choose_spec (hx i)
    let l : List Nd := (List.range len).map fun i => ((q i).2.1, (q i).2.2)
    have hll : l.length = len := by simp [l]
    have hlg : ∀ i, i < len → l.getD i ([], 0) = ((q i).2.1, (q i).2.2) := fun i hi => by simp [l, List.getD_eq_getElem?_getD, hi]
    let cvs : List Value := (List.range len).map fun i => (q i).1
    have hcg : ∀ i, i < len → cvs.getD i undef = (q i).1 := fun i hi => by simp [cvs, List.getD_eq_getElem?_getD, hi]
    have hT : TreeM W (.slice (some a) len cap) l := by
      refine ⟨some a, cap, cvs, by rw [hll], fun _ => ⟨a, rfl, fun j hj => ?_⟩, fun j hj => ?_⟩
      · rw [hll] at hj
        rw [hcg j hj, hlg j hj]
        exact ⟨(hq j hj).1, (hq j hj).2.1⟩
      · rw [hll] at hj
        rw [hcg j hj, hlg j hj]
        exact (hq j hj).2.2.1
    refine ⟨l, hT, by rw [hll]; simp only [maxLen] at hm2; omega, fun i h0 hi => ?_⟩
    rw [hll] at hi
    obtain ⟨g0, g1, g2, A', c', g3, g4⟩ := hq i.toNat (by omega)
    have hk : kid l i = (q i.toNat).2.1 := by unfold kid; rw [hlg i.toNat (by omega)]
    have hw : wor l i = (q i.toNat).2.2 := by unfold wor; rw [hlg i.toNat (by omega)]
    rw [hk, hw]
    refine ⟨a, cap, A', c', by rw [hll], by rw [← g3]; exact g2, g4, fun w' hb => ?_⟩
    have kk := Kp.of_below (S := fun _ => False) hb
    exact ⟨by rw [← g3]; exact cell_kp kk g0 (fun e => e), cell_kp kk g1 (fun e => e)⟩
end Go.Proofs.Ytdiljpnfochndaa
