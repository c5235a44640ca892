/- A part of the walk: what this seat's statements share. -/
import Derived.Test.YtdiljpnfochndaaZG11
import Derived.Test.YtdiljpnfochndaaZG9
import Derived.Test.YtdiljpnfochndaaZG6
import Derived.Test.YtdiljpnfochndaaZG4
set_option linter.unusedVariables false
set_option linter.unusedSimpArgs false
set_option linter.unusedSectionVars false
namespace Go.Proofs.Ytdiljpnfochndaa
open Go Go.RowKit Go.Proofs.Ytdiljpnfochndaa.VW
open Go.Proofs.Ytdiljpnfochndaa.HP (Nd kid wor leafB)
attribute [local irreducible] W Ops OrdA VW.Ord OrdX
theorem flat_set : ∀ (cs : List Value) (xs : List Nd) (p : Nat) (v : Value) (ks : List Int), cs.length = xs.length → p < xs.length → (flat cs xs).set (p * 2) v = flat (cs.set p v) (xs.set p (ks, (xs.getD p ([], 0)).2))
  | [], [], _, _, _, _, h => by simp at h
  | a :: cs, y :: xs, 0, v, ks, _, _ => by simp [flat]
  | a :: cs, y :: xs, p + 1, v, ks, h, hp => by
    have := flat_set cs xs p v ks (by simpa using h) (by simpa using hp)
    rw [show (p + 1) * 2 = p * 2 + 1 + 1 by omega]
    simp only [flat, List.set_cons_succ, List.getD_cons_succ, this]
  | [], _ :: _, _, _, _, h, _ => by simp at h
  | _ :: _, [], _, _, _, h, _ => by simp at h
theorem ndD_set_eq {tr : List Nd} {p : Nat} {x : Nd} (h : p < tr.length) : (tr.set p x).getD p ([], 0) = x := by simp [List.getD_eq_getElem?_getD, h]
theorem ndD_set_ne {tr : List Nd} {p j : Nat} {x : Nd} (h : p ≠ j) : (tr.set p x).getD j ([], 0) = tr.getD j ([], 0) := by simp [List.getD_eq_getElem?_getD, h]
/-- A tree of the call's own, whose lists of children are its own too, each in its own block; all of them from block B on. -/
structure TQ (B : Nat) (w : World) (ov : Value) (tr : List Nd) (cvs : List Value) : Prop where
  ge : ∀ k, ov.ownBlock = some k → B ≤ k
  len : cvs.length = tr.length
  row : w.ownsRow 0 47 2 ov tr.length (flat cvs tr)
  own : ∀ j, j < tr.length → w.ownsRow 0 3 1 (cvs.getD j undef) (tr.getD j ([], 0)).1.length ((tr.getD j ([], 0)).1.map (Value.int .i64))
  sep : ∀ j, j < tr.length → ∀ k, (cvs.getD j undef).ownBlock = some k → B ≤ k ∧ ov.ownBlock ≠ some k
  two : ∀ j j', j < tr.length → j' < tr.length → j ≠ j' → ∀ k, (cvs.getD j undef).ownBlock = some k → (cvs.getD j' undef).ownBlock ≠ some k
/-- The blocks of such a tree. -/
def outB (ov : Value) (cvs : List Value) (k : Nat) : Prop := ov.ownBlock = some k ∨ ∃ j, j < cvs.length ∧ (cvs.getD j undef).ownBlock = some k
theorem TQ.nil (B : Nat) (w : World) : TQ B w (.slice none 0 0) [] [] :=
  ⟨fun k hk => by simp [Value.ownBlock] at hk, rfl, World.ownsRow_nil w 0 47 2, fun j hj => by simp at hj, fun j hj => by simp at hj, fun j j' hj => by simp at hj⟩
theorem TQ.kp {B : Nat} {w w' : World} {ov : Value} {tr : List Nd} {cvs : List Value} {S : Nat → Prop} (h : TQ B w ov tr cvs) (k : Kp S w w') (hs : ∀ i, outB ov cvs i → ¬ S i) : TQ B w' ov tr cvs :=
  ⟨h.ge, h.len, own_kp h.row k (fun i hi => hs i (.inl hi)), fun j hj => own_kp (h.own j hj) k (fun i hi => hs i (.inr ⟨j, by rw [h.len]; exact hj, hi⟩)), h.sep, h.two⟩
theorem TQ.lt {B : Nat} {w : World} {ov : Value} {tr : List Nd} {cvs : List Value} (h : TQ B w ov tr cvs) {k : Nat} (hk : outB ov cvs k) : B ≤ k ∧ k < w.heap.size := by
  rcases hk with e | ⟨j, hj, e⟩
  · exact ⟨h.ge k e, (h.row.lt k e).2⟩
  · rw [h.len] at hj
    exact ⟨(h.sep j hj k e).1, ((h.own j hj).lt k e).2⟩
theorem TQ.below {B : Nat} {w w' : World} {ov : Value} {tr : List Nd} {cvs : List Value} (h : TQ B w ov tr cvs) (k : Below w.heap.size w w') : TQ B w' ov tr cvs :=
  h.kp (Kp.of_below (S := fun _ => False) k) (fun _ _ e => e)
theorem TQ.treeM {B : Nat} {w : World} {ov : Value} {tr : List Nd} {cvs : List Value} (h : TQ B w ov tr cvs) : TreeM w ov tr := by
  by_cases hp : 0 < tr.length
  · obtain ⟨g, cap, rfl, hc⟩ := own_at h.row hp
    refine ⟨some ⟨g, 0, none⟩, cap, cvs, rfl, fun _ => ⟨_, rfl, fun j hj => ?_⟩, fun j hj => own_sl (h.own j hj)⟩
    have hf := flat_at cvs tr j h.len hj
    rw [add_lit, add_lit, Nat.zero_add]
    exact ⟨by rw [hc _ (by omega), hf.1], by rw [hc _ (by omega), hf.2]⟩
  · have h0 : tr = [] := List.eq_nil_of_length_eq_zero (by omega)
    subst h0
    rcases h.row.2 with ⟨h1, _⟩ | ⟨g, cap, cur, h1, _⟩
    · exact ⟨none, 0, cvs, h1, fun h => by simp at h, fun j hj => by simp at hj⟩
    · exact ⟨_, cap, cvs, h1, fun h => by simp at h, fun j hj => by simp at hj⟩
/-- The cell of the children of an element. -/
theorem TQ.cell {B : Nat} {w : World} {ov : Value} {tr : List Nd} {cvs : List Value} (h : TQ B w ov tr cvs) {p : Nat} (hp : p < tr.length) : ∃ g cap, ov = .slice (some ⟨g, 0, none⟩) tr.length cap ∧ w.cell? ⟨g, p * 2, none⟩ = some (cvs.getD p undef) := by
  obtain ⟨g, cap, e, hc⟩ := own_at h.row (by omega)
  have hf := flat_at cvs tr p h.len hp
  exact ⟨g, cap, e, by rw [hc _ (by omega), hf.1]⟩
/-- A node without children more. -/
theorem TQ.push {B : Nat} {w w' : World} {ov ov' : Value} {tr : List Nd} {cvs : List Value} {x : Int} (h : TQ B w ov tr cvs) (hB : B ≤ w.heap.size)
    (hrow : w'.ownsRow 0 47 2 ov' (tr.length + 1) (flat cvs tr ++ [.slice none 0 0, .int .i64 x])) (k : Kp (fun i => ov.ownBlock = some i) w w') (hn : ∀ i, ov'.ownBlock = some i → ov.ownBlock = some i ∨ w.heap.size ≤ i) : TQ B w' ov' (tr ++ [([], x)]) (cvs ++ [.slice none 0 0]) := by
  have hl := h.len
  have hb : ∀ i, ov'.ownBlock = some i → B ≤ i := fun i hi => by
    rcases hn i hi with e | e
    · exact h.ge i e
    · omega
  refine ⟨hb, by simp [hl], ?_, fun j hj => ?_, fun j hj i hi => ?_, fun j j' hj hj' hne i hi => ?_⟩
  · rw [flat_snoc _ _ _ _ hl, List.length_append, List.length_singleton]
    exact hrow
  · rw [List.length_append, List.length_singleton] at hj
    by_cases e : j = tr.length
    · subst e
      rw [app_last hl.symm, app_last rfl]
      exact own_nil _ _ _
    · rw [app_getD (by omega), app_getD (by omega)]
      exact own_kp (h.own j (by omega)) k (fun i hi e2 => (h.sep j (by omega) i hi).2 e2)
  · rw [List.length_append, List.length_singleton] at hj
    by_cases e : j = tr.length
    · subst e
      rw [app_last hl.symm] at hi
      simp [Value.ownBlock] at hi
    · rw [app_getD (by omega)] at hi
      refine ⟨(h.sep j (by omega) i hi).1, fun e2 => ?_⟩
      rcases hn i e2 with e3 | e3
      · exact (h.sep j (by omega) i hi).2 e3
      · have := ((h.own j (by omega)).lt i hi).2; omega
  · rw [List.length_append, List.length_singleton] at hj hj'
    by_cases e : j = tr.length
    · subst e
      rw [app_last hl.symm] at hi
      simp [Value.ownBlock] at hi
    · by_cases e' : j' = tr.length
      · subst e'
        rw [app_last hl.symm]
        simp [Value.ownBlock]
      · rw [app_getD (by omega)] at hi
        rw [app_getD (by omega)]
        exact h.two j j' (by omega) (by omega) hne i hi
/-- A child more. -/
theorem TQ.grow {B : Nat} {w w1 w' : World} {ov lv' : Value} {tr : List Nd} {cvs : List Value} {p : Nat} {x : Int} (h : TQ B w ov tr cvs) (hB : B ≤ w.heap.size) (hp : p < tr.length)
    (ho : w1.ownsRow 0 3 1 lv' ((kid tr p).length + 1) ((kid tr p).map (Value.int .i64) ++ [.int .i64 x])) (k : Kp (fun i => (cvs.getD p undef).ownBlock = some i) w w1)
    (hn : ∀ i, lv'.ownBlock = some i → (cvs.getD p undef).ownBlock = some i ∨ w.heap.size ≤ i) (ho' : w'.ownsRow 0 47 2 ov tr.length ((flat cvs tr).set (p * 2) lv')) (k' : Kp (fun i => ov.ownBlock = some i) w1 w') : TQ B w' ov (tr.set p (kid tr p ++ [x], wor tr p)) (cvs.set p lv') := by
  have hl := h.len
  have hsep : ∀ i, lv'.ownBlock = some i → B ≤ i ∧ ov.ownBlock ≠ some i := fun i hi => by
    rcases hn i hi with e | e
    · exact h.sep p hp i e
    · exact ⟨by omega, fun e2 => by have := (h.row.lt i e2).2; omega⟩
  have hkid : (tr.getD p ([], 0)).1 = kid tr p := by simp [Go.Proofs.Ytdiljpnfochndaa.HP.kid]
  refine ⟨h.ge, by simp [hl], ?_, fun j hj => ?_, fun j hj i hi => ?_, fun j j' hj hj' hne i hi => ?_⟩
  · rw [flat_set _ _ _ _ (kid tr p ++ [x]) hl hp] at ho'
    rw [List.length_set]
    simpa [Go.Proofs.Ytdiljpnfochndaa.HP.wor] using ho'
  · rw [List.length_set] at hj
    by_cases e : p = j
    · subst e
      rw [lgetD_set_eq (by omega), ndD_set_eq hp]
      have := own_kp ho k' (fun i hi e => (hsep i hi).2 e)
      simpa using this
    · rw [lgetD_set_ne e, ndD_set_ne e]
      exact own_kp (own_kp (h.own j hj) k (fun i hi e2 => h.two p j hp hj e i e2 hi)) k' (fun i hi e2 => (h.sep j hj i hi).2 e2)
  · rw [List.length_set] at hj
    by_cases e : p = j
    · subst e
      rw [lgetD_set_eq (by omega)] at hi
      exact hsep i hi
    · rw [lgetD_set_ne e] at hi
      exact h.sep j hj i hi
  · rw [List.length_set] at hj hj'
    by_cases e : p = j
    · subst e
      rw [lgetD_set_eq (by omega)] at hi
      rw [lgetD_set_ne hne]
      rcases hn i hi with e2 | e2
      · exact h.two p j' hp hj' hne i e2
      · intro e3; have := ((h.own j' hj').lt i e3).2; omega
    · rw [lgetD_set_ne e] at hi
      by_cases e' : p = j'
      · subst e'
        rw [lgetD_set_eq (by omega)]
        intro e3
        rcases hn i e3 with e4 | e4
        · exact h.two j p hj hp hne i hi e4
        · have := ((h.own j hj).lt i hi).2; omega
      · rw [lgetD_set_ne e']
        exact h.two j j' hj hj' hne i hi
theorem outB_push {ov ov' : Value} {cvs : List Value} {w : World} (hn : ∀ i, ov'.ownBlock = some i → ov.ownBlock = some i ∨ w.heap.size ≤ i) : ∀ k, outB ov' (cvs ++ [.slice none 0 0]) k → outB ov cvs k ∨ w.heap.size ≤ k := fun k hk => by
  rcases hk with e | ⟨j, hj, e⟩
  · rcases hn k e with h | h
    · exact .inl (.inl h)
    · exact .inr h
  · rw [List.length_append, List.length_singleton] at hj
    by_cases e2 : j = cvs.length
    · subst e2
      rw [app_last rfl] at e
      simp [Value.ownBlock] at e
    · rw [app_getD (by omega)] at e
      exact .inl (.inr ⟨j, by omega, e⟩)
theorem outB_set {ov lv' : Value} {cvs : List Value} {w : World} {p : Nat} (hp : p < cvs.length) (hn : ∀ i, lv'.ownBlock = some i → (cvs.getD p undef).ownBlock = some i ∨ w.heap.size ≤ i) : ∀ k, outB ov (cvs.set p lv') k → outB ov cvs k ∨ w.heap.size ≤ k := fun k hk => by
  rcases hk with e | ⟨j, hj, e⟩
  · exact .inl (.inl e)
  · rw [List.length_set] at hj
    by_cases e2 : p = j
    · subst e2
      rw [lgetD_set_eq hj] at e
      rcases hn k e with h | h
      · exact .inl (.inr ⟨p, hj, h⟩)
      · exact .inr h
    · rw [lgetD_set_ne e2] at e
      exact .inl (.inr ⟨j, hj, e⟩)
end Go.Proofs.Ytdiljpnfochndaa
/- The tree whose children stand in another order. -/
namespace Go.Proofs.Ytdiljpnfochndaa.HP
theorem sortK_pw {K : Int → Int} {x : List Int} (h : SortK K x 0 x.length) : x.Pairwise fun a b => K a < K b := by
  rw [List.pairwise_iff_getElem]
  intro i j hi hj hij
  have := h i j (Nat.zero_le _) hij hj
  simpa [List.getD_eq_getElem?_getD, hi, hj] using this
theorem pw_uniq {K : Int → Int} {x y : List Int} (hp : x.Perm y) (hx : x.Pairwise fun a b => K a < K b) (hy : y.Pairwise fun a b => K a < K b) : x = y :=
  List.Perm.eq_of_pairwise (fun a b _ _ h1 h2 => absurd h1 (Int.lt_asymm h2)) hx hy hp
/-- The children one after the other, each at the place that it takes. -/
def kT (T : Int → Nat → List Nd) (at_ : Nat) (cs : List Int) : List Int × List Nd :=
  cs.foldl (fun a c => (a.1 ++ [((at_ + 1 + a.2.length : Nat) : Int)], a.2 ++ T c (at_ + 1 + a.2.length))) ([], [])
def subT (S : Int → List Int) (l : List Nd) : Nat → Int → Nat → List Nd
  | 0, _, _ => []
  | f + 1, i, at_ => ((kT (subT S l f) at_ (S i)).1, wor l i) :: (kT (subT S l f) at_ (S i)).2
def subO (S : Int → List Int) : Nat → Int → List Int
  | 0, _ => []
  | f + 1, i => i :: (S i).flatMap (subO S f)
theorem rev_ind {P : List Int → Prop} (h0 : P []) (h1 : ∀ cs c, P cs → P (cs ++ [c])) (cs : List Int) : P cs := by
  have : ∀ r : List Int, P r.reverse := fun r => by
    induction r with
    | nil => exact h0
    | cons a r ih => rw [List.reverse_cons]; exact h1 _ _ ih
  have h := this cs.reverse
  rwa [List.reverse_reverse] at h
theorem kT_snoc (T : Int → Nat → List Nd) (at_ : Nat) (cs : List Int) (c : Int) : kT T at_ (cs ++ [c]) = ((kT T at_ cs).1 ++ [((at_ + 1 + (kT T at_ cs).2.length : Nat) : Int)], (kT T at_ cs).2 ++ T c (at_ + 1 + (kT T at_ cs).2.length)) := by
  simp [kT, List.foldl_append]
theorem kT_nil (T : Int → Nat → List Nd) (at_ : Nat) : kT T at_ [] = ([], []) := rfl
theorem kT_len1 (T : Int → Nat → List Nd) (at_ : Nat) (cs : List Int) : (kT T at_ cs).1.length = cs.length := by
  refine rev_ind (P := fun cs => (kT T at_ cs).1.length = cs.length) rfl (fun cs c ih => ?_) cs
  rw [kT_snoc]; simp [ih]
theorem subT_len (S : Int → List Int) (l : List Nd) : ∀ (f : Nat) (i : Int) (at_ : Nat), (subT S l f i at_).length = (subO S f i).length
  | 0, _, _ => rfl
  | f + 1, i, at_ => by
    simp only [subT, subO, List.length_cons]
    have : ∀ cs : List Int, (kT (subT S l f) at_ cs).2.length = (cs.flatMap (subO S f)).length := fun cs => by
      refine rev_ind (P := fun cs => (kT (subT S l f) at_ cs).2.length = (cs.flatMap (subO S f)).length) rfl (fun cs c ih => ?_) cs
      rw [kT_snoc, List.flatMap_append, List.length_append, List.length_append, ih, subT_len S l f]
      simp
    rw [this]
theorem kT_len2 (S : Int → List Int) (l : List Nd) (f at_ : Nat) (cs : List Int) : (kT (subT S l f) at_ cs).2.length = (cs.flatMap (subO S f)).length := by
  refine rev_ind (P := fun cs => (kT (subT S l f) at_ cs).2.length = (cs.flatMap (subO S f)).length) rfl (fun cs c ih => ?_) cs
  rw [kT_snoc, List.flatMap_append, List.length_append, List.length_append, ih, subT_len]
  simp
/-- The children in another order. -/
def Ord' (S : Int → List Int) (l : List Nd) : Prop := ∀ i : Nat, i < l.length → (S i).Perm (kid l i)
theorem Ord'.mem {S : Int → List Int} {l : List Nd} (h : Ord' S l) {i : Nat} (hi : i < l.length) {c : Int} : c ∈ S i ↔ c ∈ kid l i := (h i hi).mem_iff
theorem subO_mem {S : Int → List Int} {l : List Nd} {dep : List Int} (hS : Ord' S l) (hT : TF l dep) : ∀ (f : Nat) (i : Nat), i < l.length → ∀ x ∈ subO S f i, (i : Int) ≤ x ∧ x < l.length ∧ ∃ k, Anc l k i x
  | 0, i, hi, x, hx => by simp [subO] at hx
  | f + 1, i, hi, x, hx => by
    simp only [subO, List.mem_cons, List.mem_flatMap] at hx
    rcases hx with rfl | ⟨c, hc, hx⟩
    · exact ⟨Int.le_refl _, by omega, 0, rfl⟩
    · rw [hS.mem hi] at hc
      obtain ⟨h1, h2⟩ := mem_kid hT hi hc
      obtain ⟨m, rfl⟩ := Int.eq_ofNat_of_zero_le (show 0 ≤ c by omega)
      obtain ⟨g1, g2, k, g3⟩ := subO_mem hS hT f m (by omega) x hx
      exact ⟨by omega, g2, k + 1, m, hc, g3⟩
theorem kid_nodup {l : List Nd} {dep : List Int} (hT : TF l dep) {i : Nat} (hi : i < l.length) : (kid l i).Nodup := by
  rw [List.nodup_iff_pairwise_ne, List.pairwise_iff_getElem]
  intro a b ha hb hab e
  have := (hT.inj i a i b hi ha hi hb (by simp [k_, List.getD_eq_getElem?_getD, ha, hb, e])).2
  omega
theorem subO_nodup {S : Int → List Int} {l : List Nd} {dep : List Int} (hS : Ord' S l) (hT : TF l dep) : ∀ (f : Nat) (i : Nat), i < l.length → (subO S f i).Nodup
  | 0, i, hi => by simp [subO]
  | f + 1, i, hi => by
    have hnd : (S i).Nodup := (hS i hi).nodup_iff.2 (kid_nodup hT hi)
    simp only [subO, List.nodup_cons, List.mem_flatMap, not_exists, not_and]
    refine ⟨fun c hc hx => ?_, ?_⟩
    · rw [hS.mem hi] at hc
      obtain ⟨h1, h2⟩ := mem_kid hT hi hc
      obtain ⟨m, rfl⟩ := Int.eq_ofNat_of_zero_le (show 0 ≤ c by omega)
      have := (subO_mem hS hT f m (by omega) _ hx).1
      omega
    · rw [List.nodup_iff_pairwise_ne, List.pairwise_flatMap]
      refine ⟨fun c hc => ?_, ?_⟩
      · rw [hS.mem hi] at hc
        obtain ⟨h1, h2⟩ := mem_kid hT hi hc
        obtain ⟨m, rfl⟩ := Int.eq_ofNat_of_zero_le (show 0 ≤ c by omega)
        exact subO_nodup hS hT f m (by omega)
      · refine hnd.imp_of_mem fun {c d} hc hd hne x hx y hy e => ?_
        subst e
        rw [hS.mem hi] at hc hd
        obtain ⟨h1, h2⟩ := mem_kid hT hi hc
        obtain ⟨h3, h4⟩ := mem_kid hT hi hd
        obtain ⟨b, hb, eb⟩ := kid_at hc
        obtain ⟨t, ht, et⟩ := kid_at hd
        obtain ⟨m, rfl⟩ := Int.eq_ofNat_of_zero_le (show 0 ≤ c by omega)
        obtain ⟨q, rfl⟩ := Int.eq_ofNat_of_zero_le (show 0 ≤ d by omega)
        obtain ⟨_, _, k, g1⟩ := subO_mem hS hT f m (by omega) _ hx
        obtain ⟨_, _, k', g2⟩ := subO_mem hS hT f q (by omega) _ hy
        rw [← eb] at g1
        rw [← et] at g2
        have := anc_disj hT hi hb ht g1 g2
        subst this
        exact hne (eb.symm.trans et)
theorem subO_len {S : Int → List Int} {l : List Nd} {dep : List Int} (hS : Ord' S l) (hT : TF l dep) (f : Nat) (i : Nat) (hi : i < l.length) : (subO S f i).length ≤ l.length :=
  nodup_len _ _ (subO_nodup hS hT f i hi) fun x hx => by have := subO_mem hS hT f i hi x hx; omega
end Go.Proofs.Ytdiljpnfochndaa.HP
/- The order of the children: by value, then by place. -/
namespace Go.Proofs.Ytdiljpnfochndaa.HP
/-- 1 for who takes the smallest, -1 for who takes the greatest. -/
def sg (dep : List Int) (i : Int) : Int := if evB dep i then -1 else 1
theorem sg_cases (dep : List Int) (i : Int) : sg dep i = 1 ∨ sg dep i = -1 := by unfold sg; split <;> simp
def KK (l : List Nd) (dep vs : List Int) (i x : Int) : Int := sg dep i * rd vs x * 64 + ((kid l i).idxOf x : Nat)
def SS (l : List Nd) (dep vs : List Int) (i : Int) : List Int := (kid l i).mergeSort fun x y => decide (KK l dep vs i x ≤ KK l dep vs i y)
theorem idx_kid {l : List Nd} {dep : List Int} (hT : TF l dep) {i p : Nat} (hi : i < l.length) (hp : p < (kid l i).length) : (kid l i).idxOf ((kid l i).getD p 0) = p := by
  have := (kid_nodup hT hi).idxOf_getElem p hp
  simpa [List.getD_eq_getElem?_getD, hp] using this
theorem KK_kid {l : List Nd} {dep : List Int} (hT : TF l dep) (vs : List Int) {i p : Nat} (hi : i < l.length) (hp : p < (kid l i).length) : KK l dep vs i ((kid l i).getD p 0) = sg dep i * rd vs ((kid l i).getD p 0) * 64 + p := by
  unfold KK; rw [idx_kid hT hi hp]
theorem KK_lt {l : List Nd} {dep : List Int} (hT : TF l dep) (vs : List Int) {i p q : Nat} (hi : i < l.length) (hpq : p < q) (hq : q < (kid l i).length) :
    (sg dep i * (rd vs ((kid l i).getD q 0) - rd vs ((kid l i).getD p 0)) < 0 ↔ KK l dep vs i ((kid l i).getD q 0) < KK l dep vs i ((kid l i).getD p 0)) ∧ KK l dep vs i ((kid l i).getD p 0) ≠ KK l dep vs i ((kid l i).getD q 0) := by
  have hl := hT.klen i hi
  rw [KK_kid hT vs hi (show p < _ by omega), KK_kid hT vs hi hq]
  rcases sg_cases dep i with e | e <;> rw [e] <;> constructor <;> omega
theorem KK_inj {l : List Nd} {dep : List Int} (hT : TF l dep) (vs : List Int) {i : Nat} (hi : i < l.length) {x y : Int} (hx : x ∈ kid l i) (hy : y ∈ kid l i) (h : KK l dep vs i x = KK l dep vs i y) : x = y := by
  obtain ⟨p, hp, rfl⟩ := kid_at hx
  obtain ⟨q, hq, rfl⟩ := kid_at hy
  rcases Nat.lt_trichotomy p q with e | e | e
  · exact absurd h (KK_lt hT vs hi e hq).2
  · rw [e]
  · exact absurd h.symm (KK_lt hT vs hi e hp).2
theorem SS_perm (l : List Nd) (dep vs : List Int) (i : Int) : (SS l dep vs i).Perm (kid l i) := List.mergeSort_perm _ _
theorem SS_ord (l : List Nd) (dep vs : List Int) : Ord' (SS l dep vs) l := fun i _ => SS_perm l dep vs i
theorem SS_pw {l : List Nd} {dep : List Int} (hT : TF l dep) (vs : List Int) {i : Nat} (hi : i < l.length) : (SS l dep vs i).Pairwise fun a b => KK l dep vs i a < KK l dep vs i b := by
  have h1 := List.pairwise_mergeSort (le := fun x y => decide (KK l dep vs i x ≤ KK l dep vs i y)) (fun a b c h1 h2 => by simp only [decide_eq_true_eq] at h1 h2 ⊢; omega) (fun a b => by simp only [Bool.or_eq_true, decide_eq_true_eq]; omega) (kid l i)
  have h2 : (SS l dep vs i).Nodup := (SS_perm l dep vs i).nodup_iff.2 (kid_nodup hT hi)
  rw [List.nodup_iff_pairwise_ne] at h2
  refine (h1.and h2).imp_of_mem fun {a b} ha hb h => ?_
  have h3 : a ≠ b := h.2
  have h4 := h.1
  simp only [decide_eq_true_eq] at h4
  have h5 : KK l dep vs i a ≠ KK l dep vs i b := fun e => h3 (KK_inj hT vs hi ((SS_perm l dep vs i).mem_iff.1 ha) ((SS_perm l dep vs i).mem_iff.1 hb) e)
  omega
theorem SS_uniq {l : List Nd} {dep : List Int} (hT : TF l dep) (vs : List Int) {i : Nat} (hi : i < l.length) {os : List Int} (h1 : os.Perm (kid l i)) (h2 : os.Pairwise fun a b => KK l dep vs i a < KK l dep vs i b) : os = SS l dep vs i :=
  pw_uniq (h1.trans (SS_perm l dep vs i).symm) h2 (SS_pw hT vs hi)
theorem SS_len (l : List Nd) (dep vs : List Int) (i : Int) : (SS l dep vs i).length = (kid l i).length := (SS_perm l dep vs i).length_eq
theorem SS_mem {l : List Nd} {dep : List Int} (hT : TF l dep) (vs : List Int) {i : Nat} (hi : i < l.length) {j : Nat} (hj : j < (SS l dep vs i).length) : (i : Int) < (SS l dep vs i).getD j 0 ∧ (SS l dep vs i).getD j 0 < l.length := by
  have hm : (SS l dep vs i).getD j 0 ∈ kid l i := (SS_perm l dep vs i).mem_iff.1 (by rw [List.getD_eq_getElem?_getD, List.getElem?_eq_getElem hj]; exact List.getElem_mem hj)
  obtain ⟨h1, h2⟩ := mem_kid hT hi hm
  exact ⟨h1, h2⟩
theorem getD_mem {xs : List Int} {j : Nat} (h : j < xs.length) : xs.getD j 0 ∈ xs := by rw [List.getD_eq_getElem?_getD, List.getElem?_eq_getElem h]; exact List.getElem_mem h
theorem kid_few {l : List Nd} {dep : List Int} (hT : TF l dep) {i : Nat} (hi : i < l.length) : (kid l i).length < l.length := by
  have h := nodup_len l.length ((i : Int) :: kid l i) (List.nodup_cons.2 ⟨fun h => by have := (mem_kid hT hi h).1; omega, kid_nodup hT hi⟩) (fun x hx => by
    rcases List.mem_cons.1 hx with rfl | hx
    · omega
    · have := mem_kid hT hi hx; omega)
  rw [List.length_cons] at h
  omega
end Go.Proofs.Ytdiljpnfochndaa.HP
namespace Go.Proofs.Ytdiljpnfochndaa
open Go Go.RowKit Go.Proofs.Ytdiljpnfochndaa.VW
open Go.Proofs.Ytdiljpnfochndaa.HP (Nd kid wor leafB rd evB sg)
attribute [local irreducible] W Ops OrdA VW.Ord OrdX
theorem clone_c {w : World} {v : Value} {xs : List Int} (h : SlI w v xs) (hl : xs.length ≤ 1000) : Calls Try.prog 87 #[v] w (Ret fun r w' => OI 3 (Value.int .i64) w w' r xs) := by
  obtain ⟨A, c, rfl⟩ := Sl.sl h
  refine calls_W (vs := [_]) Try.func87 rfl (by kernel_rfl) rfl ?_
  (repeat (first | with_reducible refine W.seq ?_ | with_reducible refine Ops.nil ?_ | with_reducible refine W.region ?_ | refine z_p (kk := ?_) | refine z_a (kk := ?_) | refine z_y (kk := ?_) | refine z_n (kk := ?_) | refine z_u (kk := ?_) | with_reducible refine W.skip ?_ | with_reducible refine W.endb ?_ | with_reducible refine W.block ?_ | refine W.exit rfl ?_ | refine z_l (kk := ?_) | refine z_f (kk := ?_) | refine z_M (kk := ?_) | refine z_m (kk := ?_) | refine z_e (kk := ?_) | refine z_E (kk := ?_) | refine z_d (kk := ?_) | refine z_I (kk := fun _ => ?_) | refine z_J (kk := fun _ => ?_) | refine z_K (kk := fun _ => ?_) | refine z_L (kk := fun _ => ?_) | refine z_T (kk := ?_) | refine z_F (kk := ?_) | refine z_k (kk := fun _ _ _ _ _ => ?_) | refine z_w (kk := fun _ _ => ?_) | refine z_s (kk := fun _ _ _ _ => ?_) | refine z_D (kk := ?_) | refine z_g (kk := ?_) | refine z_h (kk := ?_)))
  refine Ops.evG rfl rfl rfl (EV.nilE rfl rfl rfl rfl) ?_
  (repeat (first | with_reducible refine W.seq ?_ | with_reducible refine Ops.nil ?_ | with_reducible refine W.region ?_ | refine z_p (kk := ?_) | refine z_a (kk := ?_) | refine z_y (kk := ?_) | refine z_n (kk := ?_) | refine z_u (kk := ?_) | with_reducible refine W.skip ?_ | with_reducible refine W.endb ?_ | with_reducible refine W.block ?_ | refine W.exit rfl ?_ | refine z_l (kk := ?_) | refine z_f (kk := ?_) | refine z_M (kk := ?_) | refine z_m (kk := ?_) | refine z_e (kk := ?_) | refine z_E (kk := ?_) | refine z_d (kk := ?_) | refine z_I (kk := fun _ => ?_) | refine z_J (kk := fun _ => ?_) | refine z_K (kk := fun _ => ?_) | refine z_L (kk := fun _ => ?_) | refine z_T (kk := ?_) | refine z_F (kk := ?_) | refine z_k (kk := fun _ _ _ _ _ => ?_) | refine z_w (kk := fun _ _ => ?_) | refine z_s (kk := fun _ _ _ _ => ?_) | refine z_D (kk := ?_) | refine z_g (kk := ?_) | refine z_h (kk := ?_)))
  cases A with
  | none =>
    have hx : xs = [] := by
      obtain ⟨_, A, c', e, hc⟩ := h
      by_cases hp : 0 < xs.length
      · obtain ⟨a, ea, _⟩ := hc hp
        simp only [Value.slice.injEq] at e
        rw [ea] at e
        simp at e
      · exact List.eq_nil_of_length_eq_zero (by omega)
    subst hx
    refine W.condT rfl (by first | rfl | assumption | (simp only [bnf] <;> omega) | (simp only [*, bnf]; done) | fail) ?_
    (repeat (first | with_reducible refine W.seq ?_ | with_reducible refine Ops.nil ?_ | with_reducible refine W.region ?_ | refine z_p (kk := ?_) | refine z_a (kk := ?_) | refine z_y (kk := ?_) | refine z_n (kk := ?_) | refine z_u (kk := ?_) | with_reducible refine W.skip ?_ | with_reducible refine W.endb ?_ | with_reducible refine W.block ?_ | refine W.exit rfl ?_ | refine z_l (kk := ?_) | refine z_f (kk := ?_) | refine z_M (kk := ?_) | refine z_m (kk := ?_) | refine z_e (kk := ?_) | refine z_E (kk := ?_) | refine z_d (kk := ?_) | refine z_I (kk := fun _ => ?_) | refine z_J (kk := fun _ => ?_) | refine z_K (kk := fun _ => ?_) | refine z_L (kk := fun _ => ?_) | refine z_T (kk := ?_) | refine z_F (kk := ?_) | refine z_k (kk := fun _ _ _ _ _ => ?_) | refine z_w (kk := fun _ _ => ?_) | refine z_s (kk := fun _ _ _ _ => ?_) | refine z_D (kk := ?_) | refine z_g (kk := ?_) | refine z_h (kk := ?_)))
    exact W.fret rfl (OI.nil (Below.refl _ _))
  | some a =>
    refine W.condF rfl (by first | rfl | assumption | (simp only [bnf] <;> omega) | (simp only [*, bnf]; done) | fail) ?_
    (repeat (first | with_reducible refine W.seq ?_ | with_reducible refine Ops.nil ?_ | with_reducible refine W.region ?_ | refine z_p (kk := ?_) | refine z_a (kk := ?_) | refine z_y (kk := ?_) | refine z_n (kk := ?_) | refine z_u (kk := ?_) | with_reducible refine W.skip ?_ | with_reducible refine W.endb ?_ | with_reducible refine W.block ?_ | refine W.exit rfl ?_ | refine z_l (kk := ?_) | refine z_f (kk := ?_) | refine z_M (kk := ?_) | refine z_m (kk := ?_) | refine z_e (kk := ?_) | refine z_E (kk := ?_) | refine z_d (kk := ?_) | refine z_I (kk := fun _ => ?_) | refine z_J (kk := fun _ => ?_) | refine z_K (kk := fun _ => ?_) | refine z_L (kk := fun _ => ?_) | refine z_T (kk := ?_) | refine z_F (kk := ?_) | refine z_k (kk := fun _ _ _ _ _ => ?_) | refine z_w (kk := fun _ _ => ?_) | refine z_s (kk := fun _ _ _ _ => ?_) | refine z_D (kk := ?_) | refine z_g (kk := ?_) | refine z_h (kk := ?_)))
    refine Ops.bs0 rfl rfl rfl rfl rfl (fun w1 r hM => ?_)
    have hO1 : OI 3 (Value.int .i64) w w1 (.slice (some ⟨r, 0, none⟩) 0 0) [] := ⟨Below.put (Below.refl _ _) hM.kp (fun _ e => e.elim), own_zero hM, fun k hk => by have := hM.r_eq; simp [Value.ownBlock] at hk; omega⟩
    (repeat (first | with_reducible refine W.seq ?_ | with_reducible refine Ops.nil ?_ | with_reducible refine W.region ?_ | refine z_p (kk := ?_) | refine z_a (kk := ?_) | refine z_y (kk := ?_) | refine z_n (kk := ?_) | refine z_u (kk := ?_) | with_reducible refine W.skip ?_ | with_reducible refine W.endb ?_ | with_reducible refine W.block ?_ | refine W.exit rfl ?_ | refine z_l (kk := ?_) | refine z_f (kk := ?_) | refine z_M (kk := ?_) | refine z_m (kk := ?_) | refine z_e (kk := ?_) | refine z_E (kk := ?_) | refine z_d (kk := ?_) | refine z_I (kk := fun _ => ?_) | refine z_J (kk := fun _ => ?_) | refine z_K (kk := fun _ => ?_) | refine z_L (kk := fun _ => ?_) | refine z_T (kk := ?_) | refine z_F (kk := ?_) | refine z_k (kk := fun _ _ _ _ _ => ?_) | refine z_w (kk := fun _ _ => ?_) | refine z_s (kk := fun _ _ _ _ => ?_) | refine z_D (kk := ?_) | refine z_g (kk := ?_) | refine z_h (kk := ?_)))
    refine Ops.appO (enc := Value.int .i64) 0 rfl rfl rfl rfl rfl rfl rfl rfl rfl rfl hO1 h hO1.bel (fun _ => rfl) (by simp; omega) (fun v' w2 hO2 k2 hn2 => ?_)
    rw [List.nil_append] at hO2
    (repeat (first | with_reducible refine W.seq ?_ | with_reducible refine Ops.nil ?_ | with_reducible refine W.region ?_ | refine z_p (kk := ?_) | refine z_a (kk := ?_) | refine z_y (kk := ?_) | refine z_n (kk := ?_) | refine z_u (kk := ?_) | with_reducible refine W.skip ?_ | with_reducible refine W.endb ?_ | with_reducible refine W.block ?_ | refine W.exit rfl ?_ | refine z_l (kk := ?_) | refine z_f (kk := ?_) | refine z_M (kk := ?_) | refine z_m (kk := ?_) | refine z_e (kk := ?_) | refine z_E (kk := ?_) | refine z_d (kk := ?_) | refine z_I (kk := fun _ => ?_) | refine z_J (kk := fun _ => ?_) | refine z_K (kk := fun _ => ?_) | refine z_L (kk := fun _ => ?_) | refine z_T (kk := ?_) | refine z_F (kk := ?_) | refine z_k (kk := fun _ _ _ _ _ => ?_) | refine z_w (kk := fun _ _ => ?_) | refine z_s (kk := fun _ _ _ _ => ?_) | refine z_D (kk := ?_) | refine z_g (kk := ?_) | refine z_h (kk := ?_)))
    exact W.fret rfl hO2
theorem better_c {w : World} {g : Nat} {l : List Nd} {dep : List Int} {vv : Value} (hG : Game w g l dep) (i : Int) (h0 : 0 ≤ i) (h1 : i < dep.length) (hv : vv.oneCell' = true) :
    Calls Try.prog 85 #[.pointer (some ⟨g, 0, none⟩), .int .i64 i, vv] w (Ret fun r w' => ∃ b1 b2, r = .func (.func 98) #[] #[.pointer (some ⟨b1, 0, none⟩), .pointer (some ⟨b2, 0, none⟩)] ∧ Blk w' b1 #[.int .i64 (sg dep i)] 3 ∧ Blk w' b2 #[vv] 24 ∧ Below w.heap.size w w' ∧ w.heap.size ≤ b1 ∧ w.heap.size ≤ b2) := by
  refine calls_W (vs := [_, _, _]) Try.func85 rfl (by kernel_rfl) rfl ?_
  (repeat (first | with_reducible refine W.seq ?_ | with_reducible refine Ops.nil ?_ | with_reducible refine W.region ?_ | refine z_p (kk := ?_) | refine z_a (kk := ?_) | refine z_y (kk := ?_) | refine z_n (kk := ?_) | refine z_u (kk := ?_) | with_reducible refine W.skip ?_ | with_reducible refine W.endb ?_ | with_reducible refine W.block ?_ | refine W.exit rfl ?_ | refine z_l (kk := ?_) | refine z_f (kk := ?_) | refine z_M (kk := ?_) | refine z_m (kk := ?_) | refine z_e (kk := ?_) | refine z_E (kk := ?_) | refine z_d (kk := ?_) | refine z_I (kk := fun _ => ?_) | refine z_J (kk := fun _ => ?_) | refine z_K (kk := fun _ => ?_) | refine z_L (kk := fun _ => ?_) | refine z_T (kk := ?_) | refine z_F (kk := ?_) | refine z_k (kk := fun _ _ _ _ _ => ?_) | refine z_w (kk := fun _ _ => ?_) | refine z_s (kk := fun _ _ _ _ => ?_) | refine z_D (kk := ?_) | refine z_g (kk := ?_) | refine z_h (kk := ?_)))
  refine Ops.box rfl rfl rfl rfl (fun w1 b2 hM1 => ?_)
  have hcv : vv.cells = #[vv] := by cases vv <;> simp_all [Value.oneCell', Value.cells]
  rw [hcv] at hM1
  have hB2 : Blk w1 b2 #[vv] 24 := hM1.at_
  have hb1 : Below w.heap.size w w1 := Below.put (Below.refl _ _) hM1.kp (fun _ e => e.elim)
  (repeat (first | with_reducible refine W.seq ?_ | with_reducible refine Ops.nil ?_ | with_reducible refine W.region ?_ | refine z_p (kk := ?_) | refine z_a (kk := ?_) | refine z_y (kk := ?_) | refine z_n (kk := ?_) | refine z_u (kk := ?_) | with_reducible refine W.skip ?_ | with_reducible refine W.endb ?_ | with_reducible refine W.block ?_ | refine W.exit rfl ?_ | refine z_l (kk := ?_) | refine z_f (kk := ?_) | refine z_M (kk := ?_) | refine z_m (kk := ?_) | refine z_e (kk := ?_) | refine z_E (kk := ?_) | refine z_d (kk := ?_) | refine z_I (kk := fun _ => ?_) | refine z_J (kk := fun _ => ?_) | refine z_K (kk := fun _ => ?_) | refine z_L (kk := fun _ => ?_) | refine z_T (kk := ?_) | refine z_F (kk := ?_) | refine z_k (kk := fun _ _ _ _ _ => ?_) | refine z_w (kk := fun _ _ => ?_) | refine z_s (kk := fun _ _ _ _ => ?_) | refine z_D (kk := ?_) | refine z_g (kk := ?_) | refine z_h (kk := ?_)))
  refine Ops.alloc rfl rfl rfl rfl (fun w2 b1 hM2 => ?_)
  have hB2' : Blk w2 b2 #[vv] 24 := hB2.kp hM2.kp (fun e => e)
  have hb2 : Below w.heap.size w w2 := Below.put hb1 hM2.kp (fun _ e => e.elim)
  have e1 := hM1.r_eq
  have e2 := hM2.r_eq
  have e3 := hM1.size
  refine Ops.st rfl rfl rfl rfl rfl rfl rfl hM2.at_ (by simp [Value.cells]) (fun w3 hu3 => ?_)
  have hB1 : Blk w3 b1 #[.int .i64 1] 3 := hu3.blk
  have hB2'' : Blk w3 b2 #[vv] 24 := hB2'.kp hu3.kp (by omega)
  have hb3 : Below w.heap.size w w3 := Below.put hb2 hu3.kp (fun i hi => by omega)
  have hG3 := hG.below hb3
  (repeat (first | with_reducible refine W.seq ?_ | with_reducible refine Ops.nil ?_ | with_reducible refine W.region ?_ | refine z_p (kk := ?_) | refine z_a (kk := ?_) | refine z_y (kk := ?_) | refine z_n (kk := ?_) | refine z_u (kk := ?_) | with_reducible refine W.skip ?_ | with_reducible refine W.endb ?_ | with_reducible refine W.block ?_ | refine W.exit rfl ?_ | refine z_l (kk := ?_) | refine z_f (kk := ?_) | refine z_M (kk := ?_) | refine z_m (kk := ?_) | refine z_e (kk := ?_) | refine z_E (kk := ?_) | refine z_d (kk := ?_) | refine z_I (kk := fun _ => ?_) | refine z_J (kk := fun _ => ?_) | refine z_K (kk := fun _ => ?_) | refine z_L (kk := fun _ => ?_) | refine z_T (kk := ?_) | refine z_F (kk := ?_) | refine z_k (kk := fun _ _ _ _ _ => ?_) | refine z_w (kk := fun _ _ => ?_) | refine z_s (kk := fun _ _ _ _ => ?_) | refine z_D (kk := ?_) | refine z_g (kk := ?_) | refine z_h (kk := ?_)))
  refine Ops.callS rfl rfl rfl rfl rfl (atMax_c hG3 i h0 h1) ?_
  (repeat (first | with_reducible refine W.seq ?_ | with_reducible refine Ops.nil ?_ | with_reducible refine W.region ?_ | refine z_p (kk := ?_) | refine z_a (kk := ?_) | refine z_y (kk := ?_) | refine z_n (kk := ?_) | refine z_u (kk := ?_) | with_reducible refine W.skip ?_ | with_reducible refine W.endb ?_ | with_reducible refine W.block ?_ | refine W.exit rfl ?_ | refine z_l (kk := ?_) | refine z_f (kk := ?_) | refine z_M (kk := ?_) | refine z_m (kk := ?_) | refine z_e (kk := ?_) | refine z_E (kk := ?_) | refine z_d (kk := ?_) | refine z_I (kk := fun _ => ?_) | refine z_J (kk := fun _ => ?_) | refine z_K (kk := fun _ => ?_) | refine z_L (kk := fun _ => ?_) | refine z_T (kk := ?_) | refine z_F (kk := ?_) | refine z_k (kk := fun _ _ _ _ _ => ?_) | refine z_w (kk := fun _ _ => ?_) | refine z_s (kk := fun _ _ _ _ => ?_) | refine z_D (kk := ?_) | refine z_g (kk := ?_) | refine z_h (kk := ?_)))
  cases he : evB dep i with
  | true =>
    refine W.condT rfl (by first | rfl | assumption | (simp only [bnf] <;> omega) | (simp only [*, bnf]; done) | fail) ?_
    (repeat (first | with_reducible refine W.seq ?_ | with_reducible refine Ops.nil ?_ | with_reducible refine W.region ?_ | refine z_p (kk := ?_) | refine z_a (kk := ?_) | refine z_y (kk := ?_) | refine z_n (kk := ?_) | refine z_u (kk := ?_) | with_reducible refine W.skip ?_ | with_reducible refine W.endb ?_ | with_reducible refine W.block ?_ | refine W.exit rfl ?_ | refine z_l (kk := ?_) | refine z_f (kk := ?_) | refine z_M (kk := ?_) | refine z_m (kk := ?_) | refine z_e (kk := ?_) | refine z_E (kk := ?_) | refine z_d (kk := ?_) | refine z_I (kk := fun _ => ?_) | refine z_J (kk := fun _ => ?_) | refine z_K (kk := fun _ => ?_) | refine z_L (kk := fun _ => ?_) | refine z_T (kk := ?_) | refine z_F (kk := ?_) | refine z_k (kk := fun _ _ _ _ _ => ?_) | refine z_w (kk := fun _ _ => ?_) | refine z_s (kk := fun _ _ _ _ => ?_) | refine z_D (kk := ?_) | refine z_g (kk := ?_) | refine z_h (kk := ?_)))
    refine Ops.st rfl rfl rfl rfl rfl rfl rfl hB1 (by simp) (fun w4 hu4 => ?_)
    have hB1' : Blk w4 b1 #[.int .i64 (-1)] 3 := hu4.blk
    have hb4 : Below w.heap.size w w4 := Below.put hb3 hu4.kp (fun i hi => by omega)
    (repeat (first | with_reducible refine W.seq ?_ | with_reducible refine Ops.nil ?_ | with_reducible refine W.region ?_ | refine z_p (kk := ?_) | refine z_a (kk := ?_) | refine z_y (kk := ?_) | refine z_n (kk := ?_) | refine z_u (kk := ?_) | with_reducible refine W.skip ?_ | with_reducible refine W.endb ?_ | with_reducible refine W.block ?_ | refine W.exit rfl ?_ | refine z_l (kk := ?_) | refine z_f (kk := ?_) | refine z_M (kk := ?_) | refine z_m (kk := ?_) | refine z_e (kk := ?_) | refine z_E (kk := ?_) | refine z_d (kk := ?_) | refine z_I (kk := fun _ => ?_) | refine z_J (kk := fun _ => ?_) | refine z_K (kk := fun _ => ?_) | refine z_L (kk := fun _ => ?_) | refine z_T (kk := ?_) | refine z_F (kk := ?_) | refine z_k (kk := fun _ _ _ _ _ => ?_) | refine z_w (kk := fun _ _ => ?_) | refine z_s (kk := fun _ _ _ _ => ?_) | refine z_D (kk := ?_) | refine z_g (kk := ?_) | refine z_h (kk := ?_)))
    exact W.fret rfl ⟨b1, b2, rfl, by rw [sg, he]; exact hB1', hB2''.kp hu4.kp (by omega), hb4, by omega, by omega⟩
  | false =>
    refine W.condF rfl (by first | rfl | assumption | (simp only [bnf] <;> omega) | (simp only [*, bnf]; done) | fail) ?_
    (repeat (first | with_reducible refine W.seq ?_ | with_reducible refine Ops.nil ?_ | with_reducible refine W.region ?_ | refine z_p (kk := ?_) | refine z_a (kk := ?_) | refine z_y (kk := ?_) | refine z_n (kk := ?_) | refine z_u (kk := ?_) | with_reducible refine W.skip ?_ | with_reducible refine W.endb ?_ | with_reducible refine W.block ?_ | refine W.exit rfl ?_ | refine z_l (kk := ?_) | refine z_f (kk := ?_) | refine z_M (kk := ?_) | refine z_m (kk := ?_) | refine z_e (kk := ?_) | refine z_E (kk := ?_) | refine z_d (kk := ?_) | refine z_I (kk := fun _ => ?_) | refine z_J (kk := fun _ => ?_) | refine z_K (kk := fun _ => ?_) | refine z_L (kk := fun _ => ?_) | refine z_T (kk := ?_) | refine z_F (kk := ?_) | refine z_k (kk := fun _ _ _ _ _ => ?_) | refine z_w (kk := fun _ _ => ?_) | refine z_s (kk := fun _ _ _ _ => ?_) | refine z_D (kk := ?_) | refine z_g (kk := ?_) | refine z_h (kk := ?_)))
    exact W.fret rfl ⟨b1, b2, rfl, by rw [sg, he]; exact hB1, hB2'', hb3, by omega, by omega⟩
theorem cmp_c {w : World} {b1 b2 : Nat} {sn : Int} {vv : Value} {vs : List Int} (hB1 : Blk w b1 #[.int .i64 sn] 3) (hB2 : Blk w b2 #[vv] 24) (hs : SlI w vv vs) (hsg : sn = 1 ∨ sn = -1) (hvs : ∀ j : Nat, -1099511627776 ≤ vs.getD j 0 ∧ vs.getD j 0 ≤ 1099511627776) {x y : Int} (hx : 0 ≤ x ∧ x < vs.length) (hy : 0 ≤ y ∧ y < vs.length) :
    Calls Try.prog 98 #[.int .i64 x, .int .i64 y, .pointer (some ⟨b1, 0, none⟩), .pointer (some ⟨b2, 0, none⟩)] w (Ret fun r w' => r =   .int .i64 (sn * (rd vs x - rd vs y)) ∧ Below w.heap.size w w') := by
  obtain ⟨A, c, rfl⟩ := Sl.sl hs
  refine calls_W (vs := [_, _, _, _]) Try.func98 rfl (by kernel_rfl) rfl ?_
  (repeat (first | with_reducible refine W.seq ?_ | with_reducible refine Ops.nil ?_ | with_reducible refine W.region ?_ | refine z_p (kk := ?_) | refine z_a (kk := ?_) | refine z_y (kk := ?_) | refine z_n (kk := ?_) | refine z_u (kk := ?_) | with_reducible refine W.skip ?_ | with_reducible refine W.endb ?_ | with_reducible refine W.block ?_ | refine W.exit rfl ?_ | refine z_l (kk := ?_) | refine z_f (kk := ?_) | refine z_M (kk := ?_) | refine z_m (kk := ?_) | refine z_e (kk := ?_) | refine z_E (kk := ?_) | refine z_d (kk := ?_) | refine z_I (kk := fun _ => ?_) | refine z_J (kk := fun _ => ?_) | refine z_K (kk := fun _ => ?_) | refine z_L (kk := fun _ => ?_) | refine z_T (kk := ?_) | refine z_F (kk := ?_) | refine z_k (kk := fun _ _ _ _ _ => ?_) | refine z_w (kk := fun _ _ => ?_) | refine z_s (kk := fun _ _ _ _ => ?_) | refine z_D (kk := ?_) | refine z_g (kk := ?_) | refine z_h (kk := ?_)))
  refine W.ordA 99 [(0, 2), (1, 2), (2, 1), (3, 1), (4, 2), (5, 2), (6, 1), (7, 1), (8, 2), (9, 1), (10, 1), (11, 1)] rfl (by kernel_rfl) rfl (by kernel_rfl) (fun _ _ _ h => h) ?_
  (repeat (first | refine x_p (kk := ?_) | refine x_n (kk := ?_) | refine x_a (kk := ?_) | refine x_l (kk := ?_) | refine x_M (kk := ?_) | refine x_m (kk := ?_) | refine x_e (kk := ?_) | refine x_E (kk := ?_) | refine x_T (kk := ?_) | refine x_F (kk := ?_) | refine x_I (kk := fun _ => ?_) | refine x_J (kk := fun _ => ?_) | refine x_K (kk := fun _ => ?_) | refine x_L (kk := fun _ => ?_) | refine x_k (kk := fun _ _ _ _ _ => ?_) | refine x_w (kk := fun _ _ => ?_) | refine x_s (kk := fun _ _ _ _ => ?_) | refine x_D (kk := ?_) | refine x_t (kk := ?_) | refine x_f (kk := ?_)))
  have h1 := hvs x.toNat
  have h2 := hvs y.toNat
  simp only [rd]
  generalize vs.getD x.toNat 0 = u at *
  generalize vs.getD y.toNat 0 = v at *
  rcases hsg with rfl | rfl
  · (repeat (first | refine x_p (kk := ?_) | refine x_n (kk := ?_) | refine x_a (kk := ?_) | refine x_l (kk := ?_) | refine x_M (kk := ?_) | refine x_m (kk := ?_) | refine x_e (kk := ?_) | refine x_E (kk := ?_) | refine x_T (kk := ?_) | refine x_F (kk := ?_) | refine x_I (kk := fun _ => ?_) | refine x_J (kk := fun _ => ?_) | refine x_K (kk := fun _ => ?_) | refine x_L (kk := fun _ => ?_) | refine x_k (kk := fun _ _ _ _ _ => ?_) | refine x_w (kk := fun _ _ => ?_) | refine x_s (kk := fun _ _ _ _ => ?_)))
    refine OrdA.nil (fun w2 hb2 => ?_)
    (repeat (first | with_reducible refine W.seq ?_ | with_reducible refine Ops.nil ?_ | with_reducible refine W.region ?_ | refine z_p (kk := ?_) | refine z_a (kk := ?_) | refine z_y (kk := ?_) | refine z_n (kk := ?_) | refine z_u (kk := ?_) | with_reducible refine W.skip ?_ | with_reducible refine W.endb ?_ | with_reducible refine W.block ?_ | refine W.exit rfl ?_ | refine z_l (kk := ?_) | refine z_f (kk := ?_) | refine z_M (kk := ?_) | refine z_m (kk := ?_) | refine z_e (kk := ?_) | refine z_E (kk := ?_) | refine z_d (kk := ?_) | refine z_I (kk := fun _ => ?_) | refine z_J (kk := fun _ => ?_) | refine z_K (kk := fun _ => ?_) | refine z_L (kk := fun _ => ?_) | refine z_T (kk := ?_) | refine z_F (kk := ?_) | refine z_k (kk := fun _ _ _ _ _ => ?_) | refine z_w (kk := fun _ _ => ?_) | refine z_s (kk := fun _ _ _ _ => ?_) | refine z_D (kk := ?_) | refine z_g (kk := ?_) | refine z_h (kk := ?_)))
    exact W.fret rfl ⟨rfl, hb2⟩
  · (repeat (first | refine x_p (kk := ?_) | refine x_n (kk := ?_) | refine x_a (kk := ?_) | refine x_l (kk := ?_) | refine x_M (kk := ?_) | refine x_m (kk := ?_) | refine x_e (kk := ?_) | refine x_E (kk := ?_) | refine x_T (kk := ?_) | refine x_F (kk := ?_) | refine x_I (kk := fun _ => ?_) | refine x_J (kk := fun _ => ?_) | refine x_K (kk := fun _ => ?_) | refine x_L (kk := fun _ => ?_) | refine x_k (kk := fun _ _ _ _ _ => ?_) | refine x_w (kk := fun _ _ => ?_) | refine x_s (kk := fun _ _ _ _ => ?_)))
    refine OrdA.nil (fun w2 hb2 => ?_)
    (repeat (first | with_reducible refine W.seq ?_ | with_reducible refine Ops.nil ?_ | with_reducible refine W.region ?_ | refine z_p (kk := ?_) | refine z_a (kk := ?_) | refine z_y (kk := ?_) | refine z_n (kk := ?_) | refine z_u (kk := ?_) | with_reducible refine W.skip ?_ | with_reducible refine W.endb ?_ | with_reducible refine W.block ?_ | refine W.exit rfl ?_ | refine z_l (kk := ?_) | refine z_f (kk := ?_) | refine z_M (kk := ?_) | refine z_m (kk := ?_) | refine z_e (kk := ?_) | refine z_E (kk := ?_) | refine z_d (kk := ?_) | refine z_I (kk := fun _ => ?_) | refine z_J (kk := fun _ => ?_) | refine z_K (kk := fun _ => ?_) | refine z_L (kk := fun _ => ?_) | refine z_T (kk := ?_) | refine z_F (kk := ?_) | refine z_k (kk := fun _ _ _ _ _ => ?_) | refine z_w (kk := fun _ _ => ?_) | refine z_s (kk := fun _ _ _ _ => ?_) | refine z_D (kk := ?_) | refine z_g (kk := ?_) | refine z_h (kk := ?_)))
    exact W.fret rfl ⟨rfl, hb2⟩
end Go.Proofs.Ytdiljpnfochndaa
namespace Go.Proofs.Ytdiljpnfochndaa
open Go Go.RowKit Go.Proofs.Ytdiljpnfochndaa.VW
open Go.Proofs.Ytdiljpnfochndaa.HP (Nd kid wor leafB rd evB sg TF kT subT subO SS KK SS_perm SS_len SS_mem SS_uniq kT_snoc SortK SegP)
attribute [local irreducible] W Ops OrdA VW.Ord OrdX
theorem TQ.sh {B : Nat} {w : World} {ov : Value} {tr : List Nd} {cvs : List Value} (h : TQ B w ov tr cvs) : ∃ A c, ov = .slice A tr.length c := h.treeM.sl
theorem Below.kpB {B : Nat} {w w' : World} (h : Below B w w') : Kp (fun i => B ≤ i) w w' := ⟨h.os, h.tape, h.output, h.size, fun i hi hn => h.block i (by omega)⟩
theorem app_set {tr r : List Nd} {a b : Nd} : (tr ++ a :: r).set tr.length b = tr ++ b :: r := by simp
theorem app_kid {tr r : List Nd} {a : Nd} : kid (tr ++ a :: r) tr.length = a.1 := by simp [Go.Proofs.Ytdiljpnfochndaa.HP.kid, List.getD_eq_getElem?_getD]
theorem app_wor {tr r : List Nd} {a : Nd} : wor (tr ++ a :: r) tr.length = a.2 := by simp [Go.Proofs.Ytdiljpnfochndaa.HP.wor, List.getD_eq_getElem?_getD]
theorem flat_split {f : Int → List Int} : ∀ (xs : List Int) (j : Nat), j < xs.length → ((xs.take j).flatMap f).length + (f (xs.getD j 0)).length ≤ (xs.flatMap f).length
  | [], j, h => by simp at h
  | a :: r, 0, _ => by simp
  | a :: r, j + 1, h => by
    have := flat_split (f := f) r j (by simpa using h)
    simp only [List.take_succ_cons, List.flatMap_cons, List.length_append, List.getD_cons_succ]
    omega
theorem own_sl' {w : World} {v : Value} {xs : List Value} {n e sz : Nat} (h : w.ownsRow 0 e sz v n xs) : ∃ A c, v = .slice A n c := by
  rcases h.2 with ⟨rfl, h0⟩ | ⟨g, cap, cur, rfl, _⟩
  · exact ⟨none, 0, by rw [h0]⟩
  · exact ⟨_, _, rfl⟩
/-- What the visits find. -/
structure VisB (w0 wB : World) (b1 b6 b7 b8 b9 g : Nat) (tv vv : Value) (l : List Nd) (dep vs : List Int) : Prop where
  B1 : Blk w0 b1 #[tv] 22
  B6 : Blk w0 b6 #[.func (.func 85) #[.pointer (some ⟨g, 0, none⟩)] #[]] 95
  B7 : Blk w0 b7 #[vv] 24
  G : Game w0 g l dep
  T : TreeM w0 tv l
  V : SlI w0 vv vs
  h8 : w0.heap.size ≤ b8 ∧ b8 < wB.heap.size
  h9 : w0.heap.size ≤ b9 ∧ b9 < wB.heap.size
  h89 : b8 ≠ b9
/-- How it stands at a visit. -/
structure VisI (w0 wB w : World) (b1 b6 b7 b8 b9 : Nat) (ov : Value) (tr : List Nd) (cvs : List Value) : Prop where
  bel : Below w0.heap.size w0 w
  B9 : Blk w b9 #[.func (.func 86) #[] #[.pointer (some ⟨b8, 0, none⟩), .pointer (some ⟨b1, 0, none⟩), .pointer (some ⟨b6, 0, none⟩), .pointer (some ⟨b7, 0, none⟩), .pointer (some ⟨b9, 0, none⟩)]] 74
  B8 : Blk w b8 #[ov] 22
  Q : TQ wB.heap.size w ov tr cvs
  hB : wB.heap.size ≤ w.heap.size
def VisC (w0 wB : World) (b1 b6 b7 b8 b9 : Nat) (l : List Nd) (dep vs : List Int) (N : Nat) : Prop := ∀ (w : World) (i : Nat) (ov : Value) (tr : List Nd) (cvs : List Value), i < l.length → l.length - i ≤ N → VisI w0 wB w b1 b6 b7 b8 b9 ov tr cvs → tr.length + (subO (SS l dep vs) N i).length ≤ 60 →
  Calls Try.prog 86 #[.int .i64 i, .pointer (some ⟨b8, 0, none⟩), .pointer (some ⟨b1, 0, none⟩), .pointer (some ⟨b6, 0, none⟩), .pointer (some ⟨b7, 0, none⟩), .pointer (some ⟨b9, 0, none⟩)] w (Ret fun r w' => ∃ ov' cvs', r = .int .i64 tr.length ∧ VisI w0 wB w' b1 b6 b7 b8 b9 ov' (tr ++ subT (SS l dep vs) l N i tr.length) cvs' ∧
    Kp (fun k => k = b8 ∨ outB ov cvs k) w w' ∧ ∀ k, outB ov' cvs' k → outB ov cvs k ∨ w.heap.size ≤ k)
set_option maxHeartbeats 8000000 in
theorem visit_c {w0 wB : World} {b1 b6 b7 b8 b9 g : Nat} {tv vv : Value} {l : List Nd} {dep vs : List Int} (hV : VisB w0 wB b1 b6 b7 b8 b9 g tv vv l dep vs) (hTF : TF l dep) (hvl : vs.length = l.length) (hvs : ∀ j : Nat, -1099511627776 ≤ vs.getD j 0 ∧ vs.getD j 0 ≤ 1099511627776) : ∀ N, VisC w0 wB b1 b6 b7 b8 b9 l dep vs N := by
  intro N
  induction N with
  | zero =>
    intro w i ov tr cvs hi hN
    omega
  | succ N ih =>
    intro w i ov tr cvs hi hN hI hlen
    obtain ⟨hB1, hB6, hB7, hG, hT, hV', h8, h9, h89⟩ := hV
    have hQ := hI.Q
    have hB8 := hI.B8
    have hbel := hI.bel
    have hB := hI.hB
    have hn60 := hTF.n60
    have hdl := hTF.len
    have hwo := hTF.wor i hi
    have hkl := hTF.klen i hi
    have hkf := Go.Proofs.Ytdiljpnfochndaa.HP.kid_few hTF hi
    obtain ⟨A, c, rfl⟩ := hQ.sh
    obtain ⟨At, ct, rfl⟩ := hT.sl
    have hB1w : Blk w b1 #[.slice At l.length ct] 22 := hB1.kp (Kp.of_below (S := fun _ => False) hbel) (fun e => e)
    simp only [subO, List.length_cons] at hlen
    refine calls_W (vs := [_, _, _, _, _, _]) Try.func86 rfl (by kernel_rfl) rfl ?_
    (repeat (first | with_reducible refine W.seq ?_ | with_reducible refine Ops.nil ?_ | with_reducible refine W.region ?_ | refine z_p (kk := ?_) | refine z_a (kk := ?_) | refine z_y (kk := ?_) | refine z_n (kk := ?_) | refine z_u (kk := ?_) | with_reducible refine W.skip ?_ | with_reducible refine W.endb ?_ | with_reducible refine W.block ?_ | refine W.exit rfl ?_ | refine z_l (kk := ?_) | refine z_f (kk := ?_) | refine z_M (kk := ?_) | refine z_m (kk := ?_) | refine z_e (kk := ?_) | refine z_E (kk := ?_) | refine z_d (kk := ?_) | refine z_I (kk := fun _ => ?_) | refine z_J (kk := fun _ => ?_) | refine z_K (kk := fun _ => ?_) | refine z_L (kk := fun _ => ?_) | refine z_T (kk := ?_) | refine z_F (kk := ?_) | refine z_k (kk := fun _ _ _ _ _ => ?_) | refine z_w (kk := fun _ _ => ?_) | refine z_s (kk := fun _ _ _ _ => ?_) | refine z_D (kk := ?_) | refine z_g (kk := ?_) | refine z_h (kk := ?_)))
    have h0B : w0.heap.size ≤ wB.heap.size := by omega
    have hF0 : ∀ w1, Below wB.heap.size w w1 → Below w0.heap.size w0 w1 := fun w1 h => hbel.trans (h.mono h0B)
    have hF1 : ∀ w1, Below wB.heap.size w w1 → Blk w1 b1 #[.slice At l.length ct] 22 := fun w1 h => hB1.kp (Kp.of_below (S := fun _ => False) (hF0 w1 h)) (fun e => e)
    have hF8 : ∀ w1, Below wB.heap.size w w1 → Blk w1 b8 #[.slice A tr.length c] 22 := fun w1 h => hB8.kp (Below.kpB h) (by omega)
    refine W.ord 9 (fun w' => Below wB.heap.size w w') [(0, 2), (1, 2), (2, 1), (3, 1), (4, 1), (5, 2), (6, 1), (7, 0), (8, 0), (9, 0)] rfl (by kernel_rfl) rfl (by kernel_rfl) (fun w1 k1 _ => ⟨k1.below hB (fun _ _ e => e), ?_⟩)
    have hb1 : Below wB.heap.size w w1 := k1.below hB (fun _ _ e => e)
    have hQ1 := hQ.kp k1 (fun _ _ e => e)
    refine VW.Ord.read' rfl rfl rfl rfl (fun _ _ _ h => h) (fun w1 h => EV.ld rfl rfl rfl ((hF8 w1 h).cell (v := .slice A tr.length c) rfl)) ?_
    refine VW.Ord.read' rfl rfl rfl rfl (fun _ _ _ h => h) (fun w1 h => EV.ld rfl rfl rfl ((hF1 w1 h).cell (v := .slice At l.length ct) rfl)) ?_
    (repeat (first | refine y_p (kk := ?_) | refine y_n (kk := ?_) | refine y_a (kk := ?_) | refine y_l (kk := ?_) | refine y_M (kk := ?_) | refine y_m (kk := ?_) | refine y_e (kk := ?_) | refine y_E (kk := ?_) | refine y_T (kk := ?_) | refine y_F (kk := ?_) | refine y_I (kk := fun _ => ?_) | refine y_J (kk := fun _ => ?_) | refine y_K (kk := fun _ => ?_) | refine y_L (kk := fun _ => ?_) | refine y_t (kk := ?_) | refine y_f (kk := ?_)))
    refine VW.Ord.rdW rfl rfl rfl rfl rfl rfl rfl rfl (fun _ => rfl) rfl rfl rfl rfl (fun _ _ => rfl) rfl rfl rfl rfl rfl rfl rfl hT hF0 (by omega) (by omega) (fun _ _ _ h => h) (fun _ _ => ?_)
    refine VW.Ord.pure rfl rfl rfl rfl (fun _ _ _ h => h) (fun w => EV.bldS rfl rfl rfl rfl rfl) ?_
    refine VW.Ord.push2 (w0 := wB) rfl rfl rfl rfl rfl rfl rfl rfl rfl rfl rfl rfl rfl (fun _ => rfl) rfl rfl hQ1.row (by omega) (fun w w' S h k hs => Kp.then h (Nat.le_trans hB h.size) k hs) hb1 (fun i hi => hQ.ge i hi) (fun lv' p w2 hF2 hrow k2 hn2 => ?_)
    have hQ2 := hQ1.push (Nat.le_trans hB k1.size) hrow k2 hn2
    refine VW.Ord.eff rfl ?_
    refine Ops.st rfl rfl rfl rfl rfl rfl ?_ (hF8 w2 hF2) (by simp) (fun w3 hu3 => Ops.nil (W.endl ⟨fun h => (by simp at h), ?_⟩))
    · obtain ⟨_, _, e⟩ := hQ2.sh; rw [e]; rfl
    refine VW.Ord.nil ?_
    have hB8' : Blk w3 b8 #[lv'] 22 := hu3.blk
    have hQ3 := hQ2.kp hu3.kp (fun k hk e => by have := (hQ2.lt hk).1; omega)
    have hb03 : Below w0.heap.size w0 w3 := Kp.then (hF0 w2 hF2) (hF0 w2 hF2).size hu3.kp (fun k (e : k = b8) => by omega)
    have hB1_3 : Blk w3 b1 #[.slice At l.length ct] 22 := hB1.kp (Kp.of_below (S := fun _ => False) hb03) (fun e => e)
    have hkp3 : Kp (fun k => k = b8 ∨ outB (.slice A tr.length c) cvs k) w w3 := ((k1.trans k2).trans hu3.kp).mono (fun k _ e => by
      rcases e with (e | e) | e
      · exact e.elim
      · exact .inr (.inl e)
      · exact .inl e)
    have hn3 := outB_push (cvs := cvs) hn2
    have hs1 := k1.size
    have hs2 := hF2.size
    have hs3 := hu3.size
    have hs12 := k2.size
    have hB9_3 := (hI.B9.kp (Below.kpB hF2) (by omega)).kp hu3.kp (fun e => h89 e.symm)
    (repeat (first | with_reducible refine W.seq ?_ | with_reducible refine Ops.nil ?_ | with_reducible refine W.region ?_ | refine z_p (kk := ?_) | refine z_a (kk := ?_) | refine z_y (kk := ?_) | refine z_n (kk := ?_) | refine z_u (kk := ?_) | with_reducible refine W.skip ?_ | with_reducible refine W.endb ?_ | with_reducible refine W.block ?_ | refine W.exit rfl ?_ | refine z_l (kk := ?_) | refine z_f (kk := ?_) | refine z_M (kk := ?_) | refine z_m (kk := ?_) | refine z_e (kk := ?_) | refine z_E (kk := ?_) | refine z_d (kk := ?_) | refine z_I (kk := fun _ => ?_) | refine z_J (kk := fun _ => ?_) | refine z_K (kk := fun _ => ?_) | refine z_L (kk := fun _ => ?_) | refine z_T (kk := ?_) | refine z_F (kk := ?_) | refine z_k (kk := fun _ _ _ _ _ => ?_) | refine z_w (kk := fun _ _ => ?_) | refine z_s (kk := fun _ _ _ _ => ?_) | refine z_D (kk := ?_) | refine z_g (kk := ?_) | refine z_h (kk := ?_)))
    rename_i Ak ck _ _ hks
    refine Ops.call rfl rfl rfl rfl rfl (clone_c (Sl.below hks hb03) (by omega)) (fun v4 w4 hO4 => ?_)
    have hb34 := hO4.bel
    have hb04 := Below.via hb03 hb34
    have hB6_4 := hB6.kp (Kp.of_below (S := fun _ => False) hb04) (fun e => e)
    have hB7_4 := hB7.kp (Kp.of_below (S := fun _ => False) hb04) (fun e => e)
    (repeat (first | with_reducible refine W.seq ?_ | with_reducible refine Ops.nil ?_ | with_reducible refine W.region ?_ | refine z_p (kk := ?_) | refine z_a (kk := ?_) | refine z_y (kk := ?_) | refine z_n (kk := ?_) | refine z_u (kk := ?_) | with_reducible refine W.skip ?_ | with_reducible refine W.endb ?_ | with_reducible refine W.block ?_ | refine W.exit rfl ?_ | refine z_l (kk := ?_) | refine z_f (kk := ?_) | refine z_M (kk := ?_) | refine z_m (kk := ?_) | refine z_e (kk := ?_) | refine z_E (kk := ?_) | refine z_d (kk := ?_) | refine z_I (kk := fun _ => ?_) | refine z_J (kk := fun _ => ?_) | refine z_K (kk := fun _ => ?_) | refine z_L (kk := fun _ => ?_) | refine z_T (kk := ?_) | refine z_F (kk := ?_) | refine z_k (kk := fun _ _ _ _ _ => ?_) | refine z_w (kk := fun _ _ => ?_) | refine z_s (kk := fun _ _ _ _ => ?_) | refine z_D (kk := ?_) | refine z_g (kk := ?_) | refine z_h (kk := ?_)))
    refine Ops.call rfl rfl rfl rfl rfl (better_c (hG.below hb04) i (by omega) (by omega) ?_) (fun v5 w5 hR => ?_)
    · obtain ⟨_, _, e⟩ := Sl.sl hV'; rw [e]; rfl
    obtain ⟨c1, c2, rfl, hC1, hC2, hb45, hC1new, hC2new⟩ := hR
    have hO5 := hO4.below hb45
    have hb05 := Below.via hb04 hb45
    have hcm : ∀ p q : Nat, p < q → q < (kid l i).length → Cmp (fun w' => Blk w' c1 #[.int .i64 (sg dep i)] 3 ∧ Blk w' c2 #[vv] 24 ∧ Below w0.heap.size w0 w') w3 98 [] [.pointer (some ⟨c1, 0, none⟩), .pointer (some ⟨c2, 0, none⟩)] (fun y x => sg dep i * (rd vs y - rd vs x)) (KK l dep vs i) ((kid l i).getD p 0) ((kid l i).getD q 0) := fun p q h1 h2 => by
      have hk := Go.Proofs.Ytdiljpnfochndaa.HP.KK_lt hTF vs hi h1 h2
      have kp := hTF.kin i p hi (by omega)
      have kq := hTF.kin i q hi h2
      simp only [Go.Proofs.Ytdiljpnfochndaa.HP.k_] at kp kq
      exact ⟨fun w' _ hg => cmp_c hg.1 hg.2.1 (Sl.below hV' hg.2.2) (Go.Proofs.Ytdiljpnfochndaa.HP.sg_cases dep i) hvs (by omega) (by omega), hk.1, hk.2⟩
    have hGs : Gst (fun w' => Blk w' c1 #[.int .i64 (sg dep i)] 3 ∧ Blk w' c2 #[vv] 24 ∧ Below w0.heap.size w0 w') v4 := fun w w' hg k => by
      have g1 := hC1new
      have g2 := hC2new
      refine ⟨hg.1.kp k (fun e => ?_), hg.2.1.kp k (fun e => ?_), Kp.then hg.2.2 hg.2.2.size k (fun j e => ?_)⟩
      · have := (hO4.own.lt _ e).2; omega
      · have := (hO4.own.lt _ e).2; omega
      · have := hO4.ge _ e; have := hb03.size; omega
    refine Ops.call rfl rfl rfl rfl rfl (sortStable_c ⟨hO5, hC1, hC2, hb05⟩ hGs (by omega) rfl rfl hcm) (fun v6 w6 hR => ?_)
    obtain ⟨os, hO6, hS6, hK6⟩ := hR
    have hos : os = SS l dep vs i := by
      refine SS_uniq hTF vs hi hS6.perm (Go.Proofs.Ytdiljpnfochndaa.HP.sortK_pw ?_)
      rw [hS6.len]; exact hK6
    subst hos
    have hsl := SS_len l dep vs i
    have hb36 := hO6.bel
    have hI6 : VisI w0 wB w6 b1 b6 b7 b8 b9 lv' (tr ++ [([], wor l i)]) (cvs ++ [.slice none 0 0]) :=
      ⟨hO6.g.2.2, hB9_3.kp (Kp.of_below (S := fun _ => False) hb36) (fun e => e), hB8'.kp (Kp.of_below (S := fun _ => False) hb36) (fun e => e), hQ3.below hb36, by have := hb36.size; omega⟩
    have hv4 : SlI w6 v4 (SS l dep vs i) := hO6.sl
    have hv4b : ∀ k, v4.ownBlock = some k → w3.heap.size ≤ k ∧ k < w6.heap.size := fun k hk => ⟨hO6.oi.ge k hk, (hO6.oi.own.lt k hk).2⟩
    have hkp6 : Kp (fun k => k = b8 ∨ outB (.slice A tr.length c) cvs k) w w6 := (hkp3.trans (Kp.of_below (S := fun _ => False) hb36)).mono (fun k _ e => by rcases e with e | e; exact e; exact e.elim)
    have hn6 : ∀ k, outB lv' (cvs ++ [.slice none 0 0]) k → outB (.slice A tr.length c) cvs k ∨ w.heap.size ≤ k := fun k hk => by
      rcases hn3 k hk with h | h
      · exact .inl h
      · exact .inr (by omega)
    have hn6' : ∀ k, outB lv' (cvs ++ [.slice none 0 0]) k → k < w3.heap.size ∨ w6.heap.size ≤ k := fun k hk => .inl (hQ3.lt hk).2
    obtain ⟨A4, ce4, rfl⟩ := hO6.sh
    have hsz36 := hb36.size
    clear hO6 hS6 hK6 hGs hcm hO5 hO4 hQ1 hQ2 hQ3 hB8' hB9_3 hF1 hF8 hn2 hn3 hkp3 hB1_3 hks hC1 hC2
    (repeat (first | with_reducible refine W.seq ?_ | with_reducible refine Ops.nil ?_ | with_reducible refine W.region ?_ | refine z_p (kk := ?_) | refine z_a (kk := ?_) | refine z_y (kk := ?_) | refine z_n (kk := ?_) | refine z_u (kk := ?_) | with_reducible refine W.skip ?_ | with_reducible refine W.endb ?_ | with_reducible refine W.block ?_ | refine W.exit rfl ?_ | refine z_l (kk := ?_) | refine z_f (kk := ?_) | refine z_M (kk := ?_) | refine z_m (kk := ?_) | refine z_e (kk := ?_) | refine z_E (kk := ?_) | refine z_d (kk := ?_) | refine z_I (kk := fun _ => ?_) | refine z_J (kk := fun _ => ?_) | refine z_K (kk := fun _ => ?_) | refine z_L (kk := fun _ => ?_) | refine z_T (kk := ?_) | refine z_F (kk := ?_) | refine z_k (kk := fun _ _ _ _ _ => ?_) | refine z_w (kk := fun _ _ => ?_) | refine z_s (kk := fun _ _ _ _ => ?_) | refine z_D (kk := ?_) | refine z_g (kk := ?_) | refine z_h (kk := ?_)))
    refine W.loop (fun m ρ w7 => ∃ (j : Nat) (ov : Value) (cvs' : List Value), m = (kid l i).length - j ∧ j ≤ (kid l i).length ∧ ρ = [(1, .pointer (some ⟨b8, 0, none⟩)), (5, .pointer (some ⟨b9, 0, none⟩)), (8, .int .i64 tr.length), (36, .slice A4 (SS l dep vs i).length ce4), (37, .int .i64 (SS l dep vs i).length), (38, .int .i64 j)] ∧
      VisI w0 wB w7 b1 b6 b7 b8 b9 ov (tr ++ ((kT (subT (SS l dep vs) l N) tr.length ((SS l dep vs i).take j)).1, wor l i) :: (kT (subT (SS l dep vs) l N) tr.length ((SS l dep vs i).take j)).2) cvs' ∧ SlI w7 (.slice A4 (SS l dep vs i).length ce4) (SS l dep vs i) ∧
      Kp (fun k => k = b8 ∨ outB (.slice A tr.length c) cvs k) w w7 ∧ (∀ k, outB ov cvs' k → outB (.slice A tr.length c) cvs k ∨ w.heap.size ≤ k) ∧ (∀ k, outB ov cvs' k → k < w3.heap.size ∨ w6.heap.size ≤ k) ∧ w6.heap.size ≤ w7.heap.size)
      ⟨_, _, ⟨0, _, _, rfl, Nat.zero_le _, rfl, hI6, hv4, hkp6, hn6, hn6', Nat.le_refl _⟩, (by repeat (first | exact trivial | refine And.intro rfl ?_))⟩ ?_
    clear hI6 hkp6 hn6 hn6'
    rintro m ρ w7 ⟨j, ov, cvs', rfl, hj, rfl, hI7, hS7, hk7, hn7, hn7', hs7⟩
    have hB8 := hI7.B8
    have hB9 := hI7.B9
    have hQ7 := hI7.Q
    (repeat (first | with_reducible refine W.seq ?_ | with_reducible refine Ops.nil ?_ | with_reducible refine W.region ?_ | refine z_p (kk := ?_) | refine z_a (kk := ?_) | refine z_y (kk := ?_) | refine z_n (kk := ?_) | refine z_u (kk := ?_) | with_reducible refine W.skip ?_ | with_reducible refine W.endb ?_ | with_reducible refine W.block ?_ | refine W.exit rfl ?_ | refine z_l (kk := ?_) | refine z_f (kk := ?_) | refine z_M (kk := ?_) | refine z_m (kk := ?_) | refine z_e (kk := ?_) | refine z_E (kk := ?_) | refine z_d (kk := ?_) | refine z_I (kk := fun _ => ?_) | refine z_J (kk := fun _ => ?_) | refine z_K (kk := fun _ => ?_) | refine z_L (kk := fun _ => ?_) | refine z_T (kk := ?_) | refine z_F (kk := ?_) | refine z_k (kk := fun _ _ _ _ _ => ?_) | refine z_w (kk := fun _ _ => ?_) | refine z_s (kk := fun _ _ _ _ => ?_) | refine z_D (kk := ?_) | refine z_g (kk := ?_) | refine z_h (kk := ?_)))
    (first | refine W.condD rfl (fun hc => ?_) (fun hc => ?_) | refine W.condE rfl (fun hc => ?_) (fun hc => ?_) | refine W.condN rfl (fun hc => ?_) (fun hc => ?_) | refine W.cond rfl (fun hc => ?_) (fun hc => ?_))
    · have hjl : j < (SS l dep vs i).length := by omega
      (repeat (first | with_reducible refine W.seq ?_ | with_reducible refine Ops.nil ?_ | with_reducible refine W.region ?_ | refine z_p (kk := ?_) | refine z_a (kk := ?_) | refine z_y (kk := ?_) | refine z_n (kk := ?_) | refine z_u (kk := ?_) | with_reducible refine W.skip ?_ | with_reducible refine W.endb ?_ | with_reducible refine W.block ?_ | refine W.exit rfl ?_ | refine z_l (kk := ?_) | refine z_f (kk := ?_) | refine z_M (kk := ?_) | refine z_m (kk := ?_) | refine z_e (kk := ?_) | refine z_E (kk := ?_) | refine z_d (kk := ?_) | refine z_I (kk := fun _ => ?_) | refine z_J (kk := fun _ => ?_) | refine z_K (kk := fun _ => ?_) | refine z_L (kk := fun _ => ?_) | refine z_T (kk := ?_) | refine z_F (kk := ?_) | refine z_k (kk := fun _ _ _ _ _ => ?_) | refine z_w (kk := fun _ _ => ?_) | refine z_s (kk := fun _ _ _ _ => ?_) | refine z_D (kk := ?_) | refine z_g (kk := ?_) | refine z_h (kk := ?_)))
      have hmem := SS_mem hTF vs hi hjl
      obtain ⟨m, hm⟩ := Int.eq_ofNat_of_zero_le (show 0 ≤ (SS l dep vs i).getD j 0 by omega)
      have hfs := flat_split (f := subO (SS l dep vs) N) (SS l dep vs i) j hjl
      have hl2 := Go.Proofs.Ytdiljpnfochndaa.HP.kT_len2 (SS l dep vs) l N tr.length ((SS l dep vs i).take j)
      have hsn := kT_snoc (subT (SS l dep vs) l N) tr.length ((SS l dep vs i).take j) ((SS l dep vs i).getD j 0)
      rw [← Go.Proofs.Ytdiljpnfochndaa.HP.take_snoc _ _ hjl] at hsn
      rw [hm] at hfs hmem hsn
      simp only [hm]
      generalize hP : kT (subT (SS l dep vs) l N) tr.length ((SS l dep vs i).take j) = P at *
      have hcl := ih w7 m ov _ cvs' (by omega) (by omega) hI7 (by simp only [List.length_append, List.length_cons]; omega)
      simp only [List.length_append, List.length_cons] at hcl
      rw [show tr.length + (P.2.length + 1) = tr.length + 1 + P.2.length by omega] at hcl
      refine Ops.call rfl rfl rfl rfl rfl hcl (fun v w8 hR => ?_)
      obtain ⟨ov8, cvs8, rfl, hI8, hk8, hn8⟩ := hR
      rw [List.append_assoc, List.cons_append] at hI8
      have hQ8 := hI8.Q
      have hB8_8 := hI8.B8
      have hS8 : SlI w8 (.slice A4 (SS l dep vs i).length ce4) (SS l dep vs i) := hS7.kp hk8 (fun k hk e => by
        have := hv4b k hk
        rcases e with e | e
        · have := hI7.hB; have := hb03.size; omega
        · rcases hn7' k e with h | h <;> omega)
      have hPl : P.1.length = j := by
        rw [← hP, Go.Proofs.Ytdiljpnfochndaa.HP.kT_len1, List.length_take]; omega
      have hlt8 : tr.length < (tr ++ (P.1, wor l i) :: (P.2 ++ subT (SS l dep vs) l N m (tr.length + 1 + P.2.length))).length := by simp only [List.length_append, List.length_cons]; omega
      have hk8' : kid (tr ++ (P.1, wor l i) :: (P.2 ++ subT (SS l dep vs) l N m (tr.length + 1 + P.2.length))) tr.length = P.1 := app_kid
      have hw8' : wor (tr ++ (P.1, wor l i) :: (P.2 ++ subT (SS l dep vs) l N m (tr.length + 1 + P.2.length))) tr.length = wor l i := app_wor
      have hset := app_set (tr := tr) (r := P.2 ++ subT (SS l dep vs) l N m (tr.length + 1 + P.2.length)) (a := (P.1, wor l i)) (b := (P.1 ++ [((tr.length + 1 + P.2.length : Nat) : Int)], wor l i))
      generalize tr ++ (P.1, wor l i) :: (P.2 ++ subT (SS l dep vs) l N m (tr.length + 1 + P.2.length)) = L8 at *
      have hown := hQ8.own tr.length hlt8
      have hsep := hQ8.sep tr.length hlt8
      rw [show (L8.getD tr.length ([], 0)).1 = P.1 by rw [← hk8']; simp [Go.Proofs.Ytdiljpnfochndaa.HP.kid]] at hown
      obtain ⟨g8, c8, rfl, hcell⟩ := hQ8.cell hlt8
      have hgrow := fun {w1 w' lv' x} => hQ8.grow (w1 := w1) (w' := w') (lv' := lv') (x := x) hI8.hB hlt8
      rw [hk8', hw8'] at hgrow
      have hout := fun {lv'} => outB_set (ov := .slice (some ⟨g8, 0, none⟩) L8.length c8) (lv' := lv') (cvs := cvs8) (w := w8) (p := tr.length) (by rw [hQ8.len]; exact hlt8)
      generalize hkv : cvs8.getD tr.length undef = kv at *
      (repeat (first | with_reducible refine W.seq ?_ | with_reducible refine Ops.nil ?_ | with_reducible refine W.region ?_ | refine z_p (kk := ?_) | refine z_a (kk := ?_) | refine z_y (kk := ?_) | refine z_n (kk := ?_) | refine z_u (kk := ?_) | with_reducible refine W.skip ?_ | with_reducible refine W.endb ?_ | with_reducible refine W.block ?_ | refine W.exit rfl ?_ | refine z_l (kk := ?_) | refine z_f (kk := ?_) | refine z_M (kk := ?_) | refine z_m (kk := ?_) | refine z_e (kk := ?_) | refine z_E (kk := ?_) | refine z_d (kk := ?_) | refine z_I (kk := fun _ => ?_) | refine z_J (kk := fun _ => ?_) | refine z_K (kk := fun _ => ?_) | refine z_L (kk := fun _ => ?_) | refine z_T (kk := ?_) | refine z_F (kk := ?_) | refine z_k (kk := fun _ _ _ _ _ => ?_) | refine z_w (kk := fun _ _ => ?_) | refine z_s (kk := fun _ _ _ _ => ?_) | refine z_D (kk := ?_) | refine z_g (kk := ?_) | refine z_h (kk := ?_)))
      have hF8 : ∀ w1, Kp (fun k => kv.ownBlock = some k) w8 w1 → Blk w1 b8 #[.slice (some ⟨g8, 0, none⟩) L8.length c8] 22 := fun w1 k => hB8_8.kp k (fun e => by have := (hsep _ e).1; omega)
      have hFc : ∀ w1, Kp (fun k => kv.ownBlock = some k) w8 w1 → w1.cell? ⟨g8, tr.length * 2, none⟩ = some kv := fun w1 k => cell_kp k hcell (fun e => (hsep _ e).2 rfl)
      refine W.ord 12 (fun w' => Kp (fun k => kv.ownBlock = some k) w8 w') [(0, 2), (1, 1), (2, 2), (3, 1), (4, 1), (5, 1), (6, 2), (7, 1), (8, 0), (9, 0), (10, 1), (11, 1), (12, 0)] rfl (by kernel_rfl) rfl (by kernel_rfl) (fun w9 k9 _ => ⟨k9.mono (fun _ _ e => e.elim), ?_⟩)
      refine VW.Ord.read' rfl rfl rfl rfl (fun _ _ _ h => h) (fun w1 h => EV.ld rfl rfl rfl ((hF8 w1 h).cell (v := .slice (some ⟨g8, 0, none⟩) L8.length c8) rfl)) ?_
      (repeat (first | refine y_p (kk := ?_) | refine y_n (kk := ?_) | refine y_a (kk := ?_) | refine y_l (kk := ?_) | refine y_M (kk := ?_) | refine y_m (kk := ?_) | refine y_e (kk := ?_) | refine y_E (kk := ?_) | refine y_T (kk := ?_) | refine y_F (kk := ?_) | refine y_I (kk := fun _ => ?_) | refine y_J (kk := fun _ => ?_) | refine y_K (kk := fun _ => ?_) | refine y_L (kk := fun _ => ?_) | refine y_t (kk := ?_) | refine y_f (kk := ?_)))
      refine VW.Ord.read' rfl rfl rfl rfl (fun _ _ _ h => h) (fun w1 h => EV.ld rfl rfl rfl ((hF8 w1 h).cell (v := .slice (some ⟨g8, 0, none⟩) L8.length c8) rfl)) ?_
      (repeat (first | refine y_p (kk := ?_) | refine y_n (kk := ?_) | refine y_a (kk := ?_) | refine y_l (kk := ?_) | refine y_M (kk := ?_) | refine y_m (kk := ?_) | refine y_e (kk := ?_) | refine y_E (kk := ?_) | refine y_T (kk := ?_) | refine y_F (kk := ?_) | refine y_I (kk := fun _ => ?_) | refine y_J (kk := fun _ => ?_) | refine y_K (kk := fun _ => ?_) | refine y_L (kk := fun _ => ?_) | refine y_t (kk := ?_) | refine y_f (kk := ?_)))
      refine VW.Ord.pure rfl rfl rfl rfl (fun _ _ _ h => h) (fun w => EV.idx rfl rfl rfl rfl rfl (by omega) (by omega)) ?_
      refine VW.Ord.pure rfl rfl rfl rfl (fun _ _ _ h => h) (fun w => EV.fld rfl rfl (ev_top _ _ _)) ?_
      rw [add_zero', add_lit, Nat.zero_add, Int.toNat_natCast]
      refine VW.Ord.read' rfl rfl rfl rfl (fun _ _ _ h => h) (fun w1 h => EV.ld rfl rfl (ev_top _ _ _) (hFc w1 h)) ?_
      (repeat (first | refine y_p (kk := ?_) | refine y_n (kk := ?_) | refine y_a (kk := ?_) | refine y_l (kk := ?_) | refine y_M (kk := ?_) | refine y_m (kk := ?_) | refine y_e (kk := ?_) | refine y_E (kk := ?_) | refine y_T (kk := ?_) | refine y_F (kk := ?_) | refine y_I (kk := fun _ => ?_) | refine y_J (kk := fun _ => ?_) | refine y_K (kk := fun _ => ?_) | refine y_L (kk := fun _ => ?_) | refine y_t (kk := ?_) | refine y_f (kk := ?_)))
      refine VW.Ord.eff rfl ?_
      refine Ops.bs1 rfl rfl rfl rfl rfl rfl rfl rfl rfl (fun w10 r10 hM10 => ?_)
      have k10 := (k9.trans hM10.kp).mono (S' := fun k => kv.ownBlock = some k) (fun i _ e => by rcases e with e | e <;> exact e.elim)
      refine Ops.nil (W.endl ⟨fun _ => k10, ?_⟩)
      have hone := own_one hM10
      refine VW.Ord.eff rfl ?_
      have hown10 := own_kp (own_kp hown k9 (fun _ _ e => e.elim)) hM10.kp (fun _ _ e => e.elim)
      refine Ops.app (sz := 0) (news := [.int .i64 ((tr.length + 1 + P.2.length : Nat) : Int)]) (m := 1) (A := ⟨r10, 0, none⟩) (c := 1) rfl rfl rfl rfl rfl rfl rfl rfl rfl (ev_top _ _ _) hown10 rfl (hone.cells (g := r10) rfl) (by simp [Value.oneCell']) (by omega) (fun v11 w11 ho11 k11 hn11 => ?_)
      have hk11 := (k10.trans k11).mono (S' := fun k => kv.ownBlock = some k) (fun i _ e => by rcases e with e | e <;> exact e)
      refine Ops.nil (W.endl ⟨fun _ => hk11, ?_⟩)
      refine VW.Ord.pure rfl rfl rfl rfl (fun _ _ _ h => h) (fun w => EV.idx rfl rfl rfl rfl rfl (by omega) (by omega)) ?_
      refine VW.Ord.pure rfl rfl rfl rfl (fun _ _ _ h => h) (fun w => EV.fld rfl rfl (ev_top _ _ _)) ?_
      rw [add_zero', add_lit, Nat.zero_add, Int.toNat_natCast]
      have hrow11 := own_kp hQ8.row hk11 (fun k hk e => (hsep k e).2 hk)
      obtain ⟨g', cap', cur, e', hb', hcs'⟩ := own_blk hrow11 (by omega)
      cases e'
      refine VW.Ord.eff rfl ?_
      refine Ops.st (b := g8) (q := tr.length * 2) (cs := cur) rfl rfl rfl rfl (ev_top _ _ _) rfl ?_ hb' (by omega) (fun w12 hu12 => ?_)
      · obtain ⟨_, _, e⟩ := own_sl' ho11; rw [e]; rfl
      have hrow12 := own_set hrow11 hb' hu12
      have k12 : Kp (fun k => (Value.slice (some ⟨g8, 0, none⟩) L8.length c8).ownBlock = some k) w11 w12 := hu12.kp.mono (fun i _ e => by simp [Value.ownBlock, e])
      have hs10 := k10.size
      have hn11' : ∀ i, v11.ownBlock = some i → kv.ownBlock = some i ∨ w8.heap.size ≤ i := fun i hi => by
        rcases hn11 i hi with e | e
        · exact .inl e
        · exact .inr (by omega)
      have hQ12 := hgrow (x := ((tr.length + 1 + P.2.length : Nat) : Int)) ho11 hk11 hn11' hrow12 k12
      rw [hset] at hQ12
      have hout12 := hout hn11'
      refine Ops.nil (W.endl ⟨fun h => (by simp at h), ?_⟩)
      refine VW.Ord.nil ?_
      have hs11 := hk11.size
      have hs12 := hu12.size
      have hs8 := hk8.size
      have hkv8 : ∀ k, kv.ownBlock = some k → outB (.slice (some ⟨g8, 0, none⟩) L8.length c8) cvs8 k := fun k e => .inr ⟨tr.length, by rw [hQ8.len]; exact hlt8, by rw [hkv]; exact e⟩
      have hg8 : outB (.slice (some ⟨g8, 0, none⟩) L8.length c8) cvs8 g8 := .inl rfl
      have hk812 : Kp (fun k => outB (.slice (some ⟨g8, 0, none⟩) L8.length c8) cvs8 k) w8 w12 := (hk11.trans k12).mono (fun k _ e => by
        rcases e with e | e
        · exact hkv8 k e
        · exact .inl e)
      have hne8 : ∀ k, outB (.slice (some ⟨g8, 0, none⟩) L8.length c8) cvs8 k → wB.heap.size ≤ k := fun k hk => (hQ8.lt hk).1
      have hI12 : VisI w0 wB w12 b1 b6 b7 b8 b9 (.slice (some ⟨g8, 0, none⟩) L8.length c8) (tr ++ ((kT (subT (SS l dep vs) l N) tr.length ((SS l dep vs i).take (j + 1))).1, wor l i) :: (kT (subT (SS l dep vs) l N) tr.length ((SS l dep vs i).take (j + 1))).2) (cvs8.set tr.length v11) := by
        refine ⟨Kp.then hI8.bel hI8.bel.size hk812 (fun k hk => by have := hne8 k hk; omega), hI8.B9.kp hk812 (fun hk => by have := hne8 _ hk; omega), hB8_8.kp hk812 (fun hk => by have := hne8 _ hk; omega), ?_, by have := hI8.hB; omega⟩
        rw [hsn]
        exact hQ12
      (repeat (first | with_reducible refine W.seq ?_ | with_reducible refine Ops.nil ?_ | with_reducible refine W.region ?_ | refine z_p (kk := ?_) | refine z_a (kk := ?_) | refine z_y (kk := ?_) | refine z_n (kk := ?_) | refine z_u (kk := ?_) | with_reducible refine W.skip ?_ | with_reducible refine W.endb ?_ | with_reducible refine W.block ?_ | refine W.exit rfl ?_ | refine z_l (kk := ?_) | refine z_f (kk := ?_) | refine z_M (kk := ?_) | refine z_m (kk := ?_) | refine z_e (kk := ?_) | refine z_E (kk := ?_) | refine z_d (kk := ?_) | refine z_I (kk := fun _ => ?_) | refine z_J (kk := fun _ => ?_) | refine z_K (kk := fun _ => ?_) | refine z_L (kk := fun _ => ?_) | refine z_T (kk := ?_) | refine z_F (kk := ?_) | refine z_k (kk := fun _ _ _ _ _ => ?_) | refine z_w (kk := fun _ _ => ?_) | refine z_s (kk := fun _ _ _ _ => ?_) | refine z_D (kk := ?_) | refine z_g (kk := ?_) | refine z_h (kk := ?_)))
      refine W.endl ⟨_, _, ⟨⟨j + 1, _, _, rfl, by omega, rfl, hI12, ?_, ?_, ?_, ?_, ?_⟩, by omega⟩, (by repeat (first | exact trivial | refine And.intro rfl ?_))⟩
      · refine hS8.kp hk812 (fun k hk e => ?_)
        have := hv4b k hk
        rcases hn8 k e with h | h
        · rcases hn7' k h with h | h <;> omega
        · omega
      · refine ((hk7.trans hk8).trans hk812).mono (fun k hk e => ?_)
        rcases e with (e | (e | e)) | e
        · exact e
        · exact .inl e
        · rcases hn7 k e with h | h
          · exact .inr h
          · omega
        · rcases hn8 k e with h | h
          · rcases hn7 k h with h | h
            · exact .inr h
            · omega
          · have := hk7.size; omega
      · intro k hk
        rcases hout12 k hk with h | h
        · rcases hn8 k h with h | h
          · exact hn7 k h
          · have := hk7.size; exact .inr (by omega)
        · have := hk7.size; exact .inr (by omega)
      · intro k hk
        rcases hout12 k hk with h | h
        · rcases hn8 k h with h | h
          · exact hn7' k h
          · exact .inr (by omega)
        · exact .inr (by omega)
      · omega
    · have hjl : j = (SS l dep vs i).length := by omega
      subst hjl
      rw [List.take_length] at hI7
      (repeat (first | with_reducible refine W.seq ?_ | with_reducible refine Ops.nil ?_ | with_reducible refine W.region ?_ | refine z_p (kk := ?_) | refine z_a (kk := ?_) | refine z_y (kk := ?_) | refine z_n (kk := ?_) | refine z_u (kk := ?_) | with_reducible refine W.skip ?_ | with_reducible refine W.endb ?_ | with_reducible refine W.block ?_ | refine W.exit rfl ?_ | refine z_l (kk := ?_) | refine z_f (kk := ?_) | refine z_M (kk := ?_) | refine z_m (kk := ?_) | refine z_e (kk := ?_) | refine z_E (kk := ?_) | refine z_d (kk := ?_) | refine z_I (kk := fun _ => ?_) | refine z_J (kk := fun _ => ?_) | refine z_K (kk := fun _ => ?_) | refine z_L (kk := fun _ => ?_) | refine z_T (kk := ?_) | refine z_F (kk := ?_) | refine z_k (kk := fun _ _ _ _ _ => ?_) | refine z_w (kk := fun _ _ => ?_) | refine z_s (kk := fun _ _ _ _ => ?_) | refine z_D (kk := ?_) | refine z_g (kk := ?_) | refine z_h (kk := ?_)))
      exact W.fret rfl ⟨ov, cvs', rfl, hI7, hk7, hn7⟩
end Go.Proofs.Ytdiljpnfochndaa
namespace Go.Proofs.Ytdiljpnfochndaa
open Go Go.RowKit Go.Proofs.Ytdiljpnfochndaa.VW
open Go.Proofs.Ytdiljpnfochndaa.HP (Nd kid wor leafB rd evB sg TF kT subT subO SS gameOf gameOf_TF ValP SS_ord subO_len)
attribute [local irreducible] W Ops OrdA VW.Ord OrdX
def sortM (l : List Nd) (dep vs : List Int) : List Nd := subT (SS l dep vs) l l.length 0 0
def SortR (l : List Nd) (w w' : World) (r : Value) : Prop := (gameOf l).elim (r = .tuple #[.slice none 0 0, .int .i64 2]) fun dep => ∃ vs ov cvs, ValP l dep (wor l) vs ∧ r = .tuple #[ov, .int .i64 0] ∧ TQ w.heap.size w' ov (sortM l dep vs) cvs
theorem val_bds {l : List Nd} {dep vs : List Int} (hT : TF l dep) (hv : ValP l dep (wor l) vs) (j : Nat) : -1099511627776 ≤ vs.getD j 0 ∧ vs.getD j 0 ≤ 1099511627776 := by
  by_cases h : j < l.length
  · have := Go.Proofs.Ytdiljpnfochndaa.HP.val_bd hT hv (lo := -100) (hi := 100) (fun i hi _ => by have := hT.wor i hi; omega) j h
    omega
  · have := hv.len
    rw [List.getD_eq_getElem?_getD, List.getElem?_eq_none (by omega)]
    simp
set_option maxHeartbeats 4000000 in
theorem sorted_c {w : World} {v : Value} {l : List Nd} (hT : TreeM w v l) (hl : l.length ≤ 9223372036854775807) :
    Calls Try.prog 50 #[v] w (Ret fun r w' => Below w.heap.size w w' ∧ SortR l w w' r) := by
  obtain ⟨At, ct, rfl⟩ := hT.sl
  refine calls_W (vs := [_]) Try.func50 rfl (by kernel_rfl) rfl ?_
  (repeat (first | with_reducible refine W.seq ?_ | with_reducible refine Ops.nil ?_ | with_reducible refine W.region ?_ | refine z_p (kk := ?_) | refine z_a (kk := ?_) | refine z_y (kk := ?_) | refine z_n (kk := ?_) | refine z_u (kk := ?_) | with_reducible refine W.skip ?_ | with_reducible refine W.endb ?_ | with_reducible refine W.block ?_ | refine W.exit rfl ?_ | refine z_l (kk := ?_) | refine z_f (kk := ?_) | refine z_M (kk := ?_) | refine z_m (kk := ?_) | refine z_e (kk := ?_) | refine z_E (kk := ?_) | refine z_d (kk := ?_) | refine z_I (kk := fun _ => ?_) | refine z_J (kk := fun _ => ?_) | refine z_K (kk := fun _ => ?_) | refine z_L (kk := fun _ => ?_) | refine z_T (kk := ?_) | refine z_F (kk := ?_) | refine z_k (kk := fun _ _ _ _ _ => ?_) | refine z_w (kk := fun _ _ => ?_) | refine z_s (kk := fun _ _ _ _ => ?_) | refine z_D (kk := ?_) | refine z_g (kk := ?_) | refine z_h (kk := ?_)))
  refine Ops.box rfl rfl rfl rfl (fun w1 b1 hM1 => ?_)
  have hb1 : Below w.heap.size w w1 := Below.put (Below.refl _ _) hM1.kp (fun _ e => e.elim)
  have hB1 : Blk w1 b1 #[.slice At l.length ct] 22 := hM1.at_
  have hT1 := hT.below hb1
  (repeat (first | with_reducible refine W.seq ?_ | with_reducible refine Ops.nil ?_ | with_reducible refine W.region ?_ | refine z_p (kk := ?_) | refine z_a (kk := ?_) | refine z_y (kk := ?_) | refine z_n (kk := ?_) | refine z_u (kk := ?_) | with_reducible refine W.skip ?_ | with_reducible refine W.endb ?_ | with_reducible refine W.block ?_ | refine W.exit rfl ?_ | refine z_l (kk := ?_) | refine z_f (kk := ?_) | refine z_M (kk := ?_) | refine z_m (kk := ?_) | refine z_e (kk := ?_) | refine z_E (kk := ?_) | refine z_d (kk := ?_) | refine z_I (kk := fun _ => ?_) | refine z_J (kk := fun _ => ?_) | refine z_K (kk := fun _ => ?_) | refine z_L (kk := fun _ => ?_) | refine z_T (kk := ?_) | refine z_F (kk := ?_) | refine z_k (kk := fun _ _ _ _ _ => ?_) | refine z_w (kk := fun _ _ => ?_) | refine z_s (kk := fun _ _ _ _ => ?_) | refine z_D (kk := ?_) | refine z_g (kk := ?_) | refine z_h (kk := ?_)))
  refine Ops.call rfl rfl rfl rfl rfl (newGame_c hT1 hl) (fun r w2 hR => ?_)
  obtain ⟨hb12, hR⟩ := hR
  have hb2 := Below.via hb1 hb12
  cases hg : gameOf l with
  | none =>
    rw [hg] at hR
    obtain ⟨p, hp1, rfl⟩ := hR
    (repeat (first | with_reducible refine W.seq ?_ | with_reducible refine Ops.nil ?_ | with_reducible refine W.region ?_ | refine z_p (kk := ?_) | refine z_a (kk := ?_) | refine z_y (kk := ?_) | refine z_n (kk := ?_) | refine z_u (kk := ?_) | with_reducible refine W.skip ?_ | with_reducible refine W.endb ?_ | with_reducible refine W.block ?_ | refine W.exit rfl ?_ | refine z_l (kk := ?_) | refine z_f (kk := ?_) | refine z_M (kk := ?_) | refine z_m (kk := ?_) | refine z_e (kk := ?_) | refine z_E (kk := ?_) | refine z_d (kk := ?_) | refine z_I (kk := fun _ => ?_) | refine z_J (kk := fun _ => ?_) | refine z_K (kk := fun _ => ?_) | refine z_L (kk := fun _ => ?_) | refine z_T (kk := ?_) | refine z_F (kk := ?_) | refine z_k (kk := fun _ _ _ _ _ => ?_) | refine z_w (kk := fun _ _ => ?_) | refine z_s (kk := fun _ _ _ _ => ?_) | refine z_D (kk := ?_) | refine z_g (kk := ?_) | refine z_h (kk := ?_)))
    refine W.condT rfl (by first | rfl | assumption | (simp only [bnf] <;> omega) | (simp only [*, bnf]; done) | fail) ?_
    (repeat (first | with_reducible refine W.seq ?_ | with_reducible refine Ops.nil ?_ | with_reducible refine W.region ?_ | refine z_p (kk := ?_) | refine z_a (kk := ?_) | refine z_y (kk := ?_) | refine z_n (kk := ?_) | refine z_u (kk := ?_) | with_reducible refine W.skip ?_ | with_reducible refine W.endb ?_ | with_reducible refine W.block ?_ | refine W.exit rfl ?_ | refine z_l (kk := ?_) | refine z_f (kk := ?_) | refine z_M (kk := ?_) | refine z_m (kk := ?_) | refine z_e (kk := ?_) | refine z_E (kk := ?_) | refine z_d (kk := ?_) | refine z_I (kk := fun _ => ?_) | refine z_J (kk := fun _ => ?_) | refine z_K (kk := fun _ => ?_) | refine z_L (kk := fun _ => ?_) | refine z_T (kk := ?_) | refine z_F (kk := ?_) | refine z_k (kk := fun _ _ _ _ _ => ?_) | refine z_w (kk := fun _ _ => ?_) | refine z_s (kk := fun _ _ _ _ => ?_) | refine z_D (kk := ?_) | refine z_g (kk := ?_) | refine z_h (kk := ?_)))
    exact W.fret rfl ⟨hb2, by unfold SortR; rw [hg]; rfl⟩
  | some dep =>
    rw [hg] at hR
    obtain ⟨g, rfl, hgs, hG⟩ := hR
    have hTF := gameOf_TF hg
    (repeat (first | with_reducible refine W.seq ?_ | with_reducible refine Ops.nil ?_ | with_reducible refine W.region ?_ | refine z_p (kk := ?_) | refine z_a (kk := ?_) | refine z_y (kk := ?_) | refine z_n (kk := ?_) | refine z_u (kk := ?_) | with_reducible refine W.skip ?_ | with_reducible refine W.endb ?_ | with_reducible refine W.block ?_ | refine W.exit rfl ?_ | refine z_l (kk := ?_) | refine z_f (kk := ?_) | refine z_M (kk := ?_) | refine z_m (kk := ?_) | refine z_e (kk := ?_) | refine z_E (kk := ?_) | refine z_d (kk := ?_) | refine z_I (kk := fun _ => ?_) | refine z_J (kk := fun _ => ?_) | refine z_K (kk := fun _ => ?_) | refine z_L (kk := fun _ => ?_) | refine z_T (kk := ?_) | refine z_F (kk := ?_) | refine z_k (kk := fun _ _ _ _ _ => ?_) | refine z_w (kk := fun _ _ => ?_) | refine z_s (kk := fun _ _ _ _ => ?_) | refine z_D (kk := ?_) | refine z_g (kk := ?_) | refine z_h (kk := ?_)))
    refine W.condF rfl (by first | rfl | assumption | (simp only [bnf] <;> omega) | (simp only [*, bnf]; done) | fail) ?_
    (repeat (first | with_reducible refine W.seq ?_ | with_reducible refine Ops.nil ?_ | with_reducible refine W.region ?_ | refine z_p (kk := ?_) | refine z_a (kk := ?_) | refine z_y (kk := ?_) | refine z_n (kk := ?_) | refine z_u (kk := ?_) | with_reducible refine W.skip ?_ | with_reducible refine W.endb ?_ | with_reducible refine W.block ?_ | refine W.exit rfl ?_ | refine z_l (kk := ?_) | refine z_f (kk := ?_) | refine z_M (kk := ?_) | refine z_m (kk := ?_) | refine z_e (kk := ?_) | refine z_E (kk := ?_) | refine z_d (kk := ?_) | refine z_I (kk := fun _ => ?_) | refine z_J (kk := fun _ => ?_) | refine z_K (kk := fun _ => ?_) | refine z_L (kk := fun _ => ?_) | refine z_T (kk := ?_) | refine z_F (kk := ?_) | refine z_k (kk := fun _ _ _ _ _ => ?_) | refine z_w (kk := fun _ _ => ?_) | refine z_s (kk := fun _ _ _ _ => ?_) | refine z_D (kk := ?_) | refine z_g (kk := ?_) | refine z_h (kk := ?_)))
    refine Ops.alloc rfl rfl rfl rfl (fun w3 b6 hM3 => ?_)
    refine Ops.st rfl rfl rfl rfl rfl rfl rfl hM3.at_ (by decide) (fun w4 hu4 => ?_)
    have k4 := hM3.kp.trans hu4.kp
    have e3 := hM3.r_eq
    have hb24 : Below w2.heap.size w2 w4 := Below.put (Below.refl _ _) k4 (fun i hi => by rcases hi with hi | hi; exact hi.elim; omega)
    have hb4 := Below.via hb2 hb24
    have hB6 : Blk w4 b6 #[.func (.func 85) #[.pointer (some ⟨g, 0, none⟩)] #[]] 95 := hu4.blk
    have hG4 := hG.below hb24
    (repeat (first | with_reducible refine W.seq ?_ | with_reducible refine Ops.nil ?_ | with_reducible refine W.region ?_ | refine z_p (kk := ?_) | refine z_a (kk := ?_) | refine z_y (kk := ?_) | refine z_n (kk := ?_) | refine z_u (kk := ?_) | with_reducible refine W.skip ?_ | with_reducible refine W.endb ?_ | with_reducible refine W.block ?_ | refine W.exit rfl ?_ | refine z_l (kk := ?_) | refine z_f (kk := ?_) | refine z_M (kk := ?_) | refine z_m (kk := ?_) | refine z_e (kk := ?_) | refine z_E (kk := ?_) | refine z_d (kk := ?_) | refine z_I (kk := fun _ => ?_) | refine z_J (kk := fun _ => ?_) | refine z_K (kk := fun _ => ?_) | refine z_L (kk := fun _ => ?_) | refine z_T (kk := ?_) | refine z_F (kk := ?_) | refine z_k (kk := fun _ _ _ _ _ => ?_) | refine z_w (kk := fun _ _ => ?_) | refine z_s (kk := fun _ _ _ _ => ?_) | refine z_D (kk := ?_) | refine z_g (kk := ?_) | refine z_h (kk := ?_)))
    refine Ops.call rfl rfl rfl rfl rfl (values_c hG4 hTF (Clo.worth hG4)) (fun r w5 hR => ?_)
    obtain ⟨vs, hvs, hI⟩ := hR
    have hb45 := hI.bel
    have hv5 : SlI w5 r vs := hI.sl
    have hr1 : r.oneCell' = true := by obtain ⟨A, c, rfl⟩ := Sl.sl hv5; rfl
    refine Ops.alloc rfl rfl rfl rfl (fun w6 b7 hM6 => ?_)
    refine Ops.st rfl rfl rfl rfl rfl rfl hr1 hM6.at_ (by decide) (fun w7 hu7 => ?_)
    have k7 := hM6.kp.trans hu7.kp
    have e6 := hM6.r_eq
    have hb57 : Below w5.heap.size w5 w7 := Below.put (Below.refl _ _) k7 (fun i hi => by rcases hi with hi | hi; exact hi.elim; omega)
    have hB7 : Blk w7 b7 #[r] 24 := hu7.blk
    have hb47 := Below.via hb45 hb57
    have hb27 := Below.via hb24 hb47
    have hb7 := Below.via hb4 hb47
    have hG7 := hG4.below hb47
    have hv7 := Sl.below hv5 hb57
    have hB6' := hB6.kp (Kp.of_below (S := fun _ => False) hb47) (fun e => e)
    have hB1' := hB1.kp (Kp.of_below (S := fun _ => False) (Below.via hb12 hb27)) (fun e => e)
    have hT7 := hT.below hb7
    (repeat (first | with_reducible refine W.seq ?_ | with_reducible refine Ops.nil ?_ | with_reducible refine W.region ?_ | refine z_p (kk := ?_) | refine z_a (kk := ?_) | refine z_y (kk := ?_) | refine z_n (kk := ?_) | refine z_u (kk := ?_) | with_reducible refine W.skip ?_ | with_reducible refine W.endb ?_ | with_reducible refine W.block ?_ | refine W.exit rfl ?_ | refine z_l (kk := ?_) | refine z_f (kk := ?_) | refine z_M (kk := ?_) | refine z_m (kk := ?_) | refine z_e (kk := ?_) | refine z_E (kk := ?_) | refine z_d (kk := ?_) | refine z_I (kk := fun _ => ?_) | refine z_J (kk := fun _ => ?_) | refine z_K (kk := fun _ => ?_) | refine z_L (kk := fun _ => ?_) | refine z_T (kk := ?_) | refine z_F (kk := ?_) | refine z_k (kk := fun _ _ _ _ _ => ?_) | refine z_w (kk := fun _ _ => ?_) | refine z_s (kk := fun _ _ _ _ => ?_) | refine z_D (kk := ?_) | refine z_g (kk := ?_) | refine z_h (kk := ?_)))
    refine Ops.alloc rfl rfl rfl rfl (fun w8 b8 hM8 => ?_)
    have e8 := hM8.r_eq
    have s8 := hM8.size
    have hB8 : Blk w8 b8 #[.slice none 0 0] 22 := hM8.at_
    (repeat (first | with_reducible refine W.seq ?_ | with_reducible refine Ops.nil ?_ | with_reducible refine W.region ?_ | refine z_p (kk := ?_) | refine z_a (kk := ?_) | refine z_y (kk := ?_) | refine z_n (kk := ?_) | refine z_u (kk := ?_) | with_reducible refine W.skip ?_ | with_reducible refine W.endb ?_ | with_reducible refine W.block ?_ | refine W.exit rfl ?_ | refine z_l (kk := ?_) | refine z_f (kk := ?_) | refine z_M (kk := ?_) | refine z_m (kk := ?_) | refine z_e (kk := ?_) | refine z_E (kk := ?_) | refine z_d (kk := ?_) | refine z_I (kk := fun _ => ?_) | refine z_J (kk := fun _ => ?_) | refine z_K (kk := fun _ => ?_) | refine z_L (kk := fun _ => ?_) | refine z_T (kk := ?_) | refine z_F (kk := ?_) | refine z_k (kk := fun _ _ _ _ _ => ?_) | refine z_w (kk := fun _ _ => ?_) | refine z_s (kk := fun _ _ _ _ => ?_) | refine z_D (kk := ?_) | refine z_g (kk := ?_) | refine z_h (kk := ?_)))
    refine Ops.alloc rfl rfl rfl rfl (fun w9 b9 hM9 => ?_)
    have e9 := hM9.r_eq
    have s9 := hM9.size
    have hB8' := hB8.kp hM9.kp (fun e => e)
    (repeat (first | with_reducible refine W.seq ?_ | with_reducible refine Ops.nil ?_ | with_reducible refine W.region ?_ | refine z_p (kk := ?_) | refine z_a (kk := ?_) | refine z_y (kk := ?_) | refine z_n (kk := ?_) | refine z_u (kk := ?_) | with_reducible refine W.skip ?_ | with_reducible refine W.endb ?_ | with_reducible refine W.block ?_ | refine W.exit rfl ?_ | refine z_l (kk := ?_) | refine z_f (kk := ?_) | refine z_M (kk := ?_) | refine z_m (kk := ?_) | refine z_e (kk := ?_) | refine z_E (kk := ?_) | refine z_d (kk := ?_) | refine z_I (kk := fun _ => ?_) | refine z_J (kk := fun _ => ?_) | refine z_K (kk := fun _ => ?_) | refine z_L (kk := fun _ => ?_) | refine z_T (kk := ?_) | refine z_F (kk := ?_) | refine z_k (kk := fun _ _ _ _ _ => ?_) | refine z_w (kk := fun _ _ => ?_) | refine z_s (kk := fun _ _ _ _ => ?_) | refine z_D (kk := ?_) | refine z_g (kk := ?_) | refine z_h (kk := ?_)))
    refine Ops.st rfl rfl rfl rfl rfl rfl rfl hM9.at_ (by decide) (fun w10 hu10 => ?_)
    have s10 := hu10.size
    have k10 := ((hM8.kp.trans hM9.kp).trans hu10.kp).mono (S' := fun i => i = b9) (fun i _ e => by
      rcases e with (e | e) | e
      · exact e.elim
      · exact e.elim
      · exact e)
    have hb710 : Below w7.heap.size w7 w10 := Below.put (Below.refl _ _) k10 (fun i hi => by omega)
    have hI10 : VisI w7 w10 w10 b1 b6 b7 b8 b9 (.slice none 0 0) [] [] :=
      ⟨hb710, hu10.blk, hB8'.kp hu10.kp (by omega), TQ.nil _ _, Nat.le_refl _⟩
    have hV : VisB w7 w10 b1 b6 b7 b8 b9 g (.slice At l.length ct) r l dep vs := ⟨hB1', hB6', hB7, hG7, hT7, hv7, by omega, by omega, by omega⟩
    have hn1 := hTF.n1
    have hn60 := hTF.n60
    have hlen := subO_len (SS_ord l dep vs) hTF l.length 0 (by omega)
    have hB9 := hI10.B9
    (repeat (first | with_reducible refine W.seq ?_ | with_reducible refine Ops.nil ?_ | with_reducible refine W.region ?_ | refine z_p (kk := ?_) | refine z_a (kk := ?_) | refine z_y (kk := ?_) | refine z_n (kk := ?_) | refine z_u (kk := ?_) | with_reducible refine W.skip ?_ | with_reducible refine W.endb ?_ | with_reducible refine W.block ?_ | refine W.exit rfl ?_ | refine z_l (kk := ?_) | refine z_f (kk := ?_) | refine z_M (kk := ?_) | refine z_m (kk := ?_) | refine z_e (kk := ?_) | refine z_E (kk := ?_) | refine z_d (kk := ?_) | refine z_I (kk := fun _ => ?_) | refine z_J (kk := fun _ => ?_) | refine z_K (kk := fun _ => ?_) | refine z_L (kk := fun _ => ?_) | refine z_T (kk := ?_) | refine z_F (kk := ?_) | refine z_k (kk := fun _ _ _ _ _ => ?_) | refine z_w (kk := fun _ _ => ?_) | refine z_s (kk := fun _ _ _ _ => ?_) | refine z_D (kk := ?_) | refine z_g (kk := ?_) | refine z_h (kk := ?_)))
    refine Ops.call rfl rfl rfl rfl rfl (visit_c hV hTF hvs.len (val_bds hTF hvs) l.length w10 0 _ _ _ (by omega) (by omega) hI10 (by simp only [List.length_nil]; omega)) (fun v w11 hR => ?_)
    obtain ⟨ov, cvs, rfl, hI11, hk11, hn11⟩ := hR
    have hB8_11 := hI11.B8
    (repeat (first | with_reducible refine W.seq ?_ | with_reducible refine Ops.nil ?_ | with_reducible refine W.region ?_ | refine z_p (kk := ?_) | refine z_a (kk := ?_) | refine z_y (kk := ?_) | refine z_n (kk := ?_) | refine z_u (kk := ?_) | with_reducible refine W.skip ?_ | with_reducible refine W.endb ?_ | with_reducible refine W.block ?_ | refine W.exit rfl ?_ | refine z_l (kk := ?_) | refine z_f (kk := ?_) | refine z_M (kk := ?_) | refine z_m (kk := ?_) | refine z_e (kk := ?_) | refine z_E (kk := ?_) | refine z_d (kk := ?_) | refine z_I (kk := fun _ => ?_) | refine z_J (kk := fun _ => ?_) | refine z_K (kk := fun _ => ?_) | refine z_L (kk := fun _ => ?_) | refine z_T (kk := ?_) | refine z_F (kk := ?_) | refine z_k (kk := fun _ _ _ _ _ => ?_) | refine z_w (kk := fun _ _ => ?_) | refine z_s (kk := fun _ _ _ _ => ?_) | refine z_D (kk := ?_) | refine z_g (kk := ?_) | refine z_h (kk := ?_)))
    have hQ := hI11.Q
    have hb27s := hb27.size
    have hb12s := hb12.size
    have hb1s := hb1.size
    have hb2s := hb2.size
    exact W.fret rfl ⟨Below.via hb7 hI11.bel, by
      unfold SortR
      rw [hg]
      refine ⟨vs, ov, cvs, hvs, rfl, ?_⟩
      have := hI11.Q
      rw [List.nil_append] at this
      refine ⟨fun k hk => ?_, this.len, this.row, this.own, fun j hj k hk => ?_, this.two⟩
      · have := this.ge k hk; omega
      · have := this.sep j hj k hk; exact ⟨by omega, this.2⟩⟩
end Go.Proofs.Ytdiljpnfochndaa
