/- A part of the walk: what this seat's statements share. -/
import Derived.Test.YtdiljpnfochndaaZHQ
set_option linter.unusedSectionVars false
set_option linter.unusedVariables false
set_option linter.unusedSimpArgs false
namespace Go.Proofs.Ytdiljpnfochndaa
open Go Go.RowKit Go.Proofs.Ytdiljpnfochndaa.VW
open Go.Proofs.Ytdiljpnfochndaa.HP (Nd kid wor leafB rd modM modM_bd chM chM_len rounds tameM tameN addKid tameM_len tameM_at)
attribute [local irreducible] W Ops
/-- Slices of numbers of the call's own, each in its own block, in a slice of the call's own. -/
structure LL (w0 w : World) (ov : Value) (c : List (List Int)) (svs : List Value) : Prop where
  bel : Below w0.heap.size w0 w
  ge : ∀ k, ov.ownBlock = some k → w0.heap.size ≤ k
  row : w.ownsRow 0 24 1 ov c.length svs
  own : ∀ j, j < c.length → w.ownsRow 0 3 1 (svs.getD j undef) (c.getD j []).length ((c.getD j []).map (Value.int .i64))
  sep : ∀ j, j < c.length → ∀ k, (svs.getD j undef).ownBlock = some k → w0.heap.size ≤ k ∧ ov.ownBlock ≠ some k
  two : ∀ j j', j < c.length → j' < c.length → j ≠ j' → ∀ k, (svs.getD j undef).ownBlock = some k → (svs.getD j' undef).ownBlock ≠ some k
theorem LL.len {w0 w : World} {ov : Value} {c : List (List Int)} {svs : List Value} (h : LL w0 w ov c svs) : svs.length = c.length := by have := h.row.1; omega
theorem LL.kp {w0 w w' : World} {ov : Value} {c : List (List Int)} {svs : List Value} {S : Nat → Prop} (h : LL w0 w ov c svs) (k : Kp S w w') (hs : ∀ i, S i → w0.heap.size ≤ i ∧ ov.ownBlock ≠ some i ∧ ∀ j, j < c.length → (svs.getD j undef).ownBlock ≠ some i) : LL w0 w' ov c svs :=
  ⟨Below.at_ h.bel k (fun i hi => (hs i hi).1), h.ge, own_kp h.row k (fun i hi e => (hs i e).2.1 hi), fun j hj => own_kp (h.own j hj) k (fun i hi e => (hs i e).2.2 j hj hi), h.sep, h.two⟩
theorem LL.fresh {w0 w w' : World} {ov : Value} {c : List (List Int)} {svs : List Value} {S : Nat → Prop} (h : LL w0 w ov c svs) (k : Kp S w w') (hs : ∀ i, S i → w.heap.size ≤ i) : LL w0 w' ov c svs :=
  h.kp k fun i hi => ⟨by have := h.bel.size; have := hs i hi; omega, fun e => by have := (h.row.lt i e).2; have := hs i hi; omega, fun j hj e => by have := ((h.own j hj).lt i e).2; have := hs i hi; omega⟩
theorem app_getD {α : Type} {xs : List α} {z d : α} {j : Nat} (h : j < xs.length) : (xs ++ [z]).getD j d = xs.getD j d := by rw [List.getD_eq_getElem?_getD, List.getElem?_append_left h, ← List.getD_eq_getElem?_getD]
theorem app_last {α : Type} {xs : List α} {z d : α} {n : Nat} (h : n = xs.length) : (xs ++ [z]).getD n d = z := by subst h; simp [List.getD_eq_getElem?_getD]
/-- An empty one more. -/
theorem LL.pushNil {w0 w w' : World} {ov ov' : Value} {c : List (List Int)} {svs : List Value} (h : LL w0 w ov c svs) (ho : w'.ownsRow 0 24 1 ov' (c.length + 1) (svs ++ [.slice none 0 0])) (k : Kp (fun i => ov.ownBlock = some i) w w')
    (hn : ∀ i, ov'.ownBlock = some i → ov.ownBlock = some i ∨ w.heap.size ≤ i) : LL w0 w' ov' (c ++ [[]]) (svs ++ [.slice none 0 0]) := by
  have hl := h.len
  have hg : ∀ j, j < c.length → (svs ++ [Value.slice none 0 0]).getD j undef = svs.getD j undef ∧ (c ++ [[]]).getD j [] = c.getD j [] := fun j hj => ⟨app_getD (by omega), app_getD hj⟩
  have hlast : (svs ++ [Value.slice none 0 0]).getD c.length undef = .slice none 0 0 ∧ (c ++ [[]]).getD c.length [] = [] := ⟨app_last hl.symm, app_last rfl⟩
  have hb : ∀ i, ov'.ownBlock = some i → w0.heap.size ≤ i := fun i hi => by
    rcases hn i hi with e | e
    · exact h.ge i e
    · have := h.bel.size; omega
  refine ⟨Below.at_ h.bel k (fun i hi => h.ge i hi), hb, by simpa using ho, fun j hj => ?_, fun j hj i hi => ?_, fun j j' hj hj' hne i hi => ?_⟩
  · simp at hj
    by_cases e : j = c.length
    · subst e
      rw [hlast.1, hlast.2]
      exact own_nil _ _ _
    · have hj' : j < c.length := by omega
      rw [(hg j hj').1, (hg j hj').2]
      exact own_kp (h.own j hj') k (fun i hi e => (h.sep j hj' i hi).2 e)
  · simp at hj
    by_cases e : j = c.length
    · subst e
      rw [hlast.1] at hi
      simp [Value.ownBlock] at hi
    · have hj' : j < c.length := by omega
      rw [(hg j hj').1] at hi
      refine ⟨(h.sep j hj' i hi).1, fun e => ?_⟩
      rcases hn i e with e2 | e2
      · exact (h.sep j hj' i hi).2 e2
      · have := ((h.own j hj').lt i hi).2; omega
  · simp at hj hj'
    by_cases e : j = c.length
    · subst e
      rw [hlast.1] at hi
      simp [Value.ownBlock] at hi
    · by_cases e' : j' = c.length
      · subst e'
        rw [hlast.1]
        simp [Value.ownBlock]
      · rw [(hg j (by omega)).1] at hi
        rw [(hg j' (by omega)).1]
        exact h.two j j' (by omega) (by omega) hne i hi
/-- A number more in one of them. -/
theorem LL.grow {w0 w w1 w' : World} {ov lv' : Value} {c : List (List Int)} {svs : List Value} {p : Nat} {x : Int} (h : LL w0 w ov c svs) (hp : p < c.length)
    (ho : w1.ownsRow 0 3 1 lv' ((c.getD p []).length + 1) ((c.getD p []).map (Value.int .i64) ++ [.int .i64 x])) (k : Kp (fun i => (svs.getD p undef).ownBlock = some i) w w1)
    (hn : ∀ i, lv'.ownBlock = some i → (svs.getD p undef).ownBlock = some i ∨ w.heap.size ≤ i) (ho' : w'.ownsRow 0 24 1 ov c.length (svs.set p lv')) (k' : Kp (fun i => ov.ownBlock = some i) w1 w') : LL w0 w' ov (c.set p (c.getD p [] ++ [x])) (svs.set p lv') := by
  have hl := h.len
  have hsep : ∀ i, lv'.ownBlock = some i → w0.heap.size ≤ i ∧ ov.ownBlock ≠ some i := fun i hi => by
    rcases hn i hi with e | e
    · exact h.sep p hp i e
    · have := h.bel.size; exact ⟨by omega, fun e2 => by have := (h.row.lt i e2).2; omega⟩
  refine ⟨Below.at_ (Below.at_ h.bel k (fun i hi => (h.sep p hp i hi).1)) k' (fun i hi => h.ge i hi), h.ge, by simpa using ho', fun j hj => ?_, fun j hj i hi => ?_, fun j j' hj hj' hne i hi => ?_⟩
  · simp at hj
    by_cases e : p = j
    · subst e
      rw [lgetD_set_eq (by omega), lgetD_set_eq (by omega)]
      have := own_kp ho k' (fun i hi e => (hsep i hi).2 e)
      simpa using this
    · rw [lgetD_set_ne e, lgetD_set_ne e]
      exact own_kp (own_kp (h.own j hj) k (fun i hi e2 => h.two p j hp hj e i e2 hi)) k' (fun i hi e2 => (h.sep j hj i hi).2 e2)
  · simp at hj
    by_cases e : p = j
    · subst e
      rw [lgetD_set_eq (by omega)] at hi
      exact hsep i hi
    · rw [lgetD_set_ne e] at hi
      exact h.sep j hj i hi
  · simp at hj hj'
    by_cases e : p = j
    · subst e
      rw [lgetD_set_eq (by omega)] at hi
      rw [lgetD_set_ne hne]
      rcases hn i hi with e2 | e2
      · exact h.two p j' hp hj' hne i e2
      · intro e3; have := ((h.own j' hj').lt i e3).2; omega
    · rw [lgetD_set_ne e] at hi
      by_cases e' : p = j'
      · subst e'
        rw [lgetD_set_eq (by omega)]
        intro e3
        rcases hn i e3 with e4 | e4
        · exact h.two j p hj hp hne i hi e4
        · have := ((h.own j hj).lt i hi).2; omega
      · rw [lgetD_set_ne e']
        exact h.two j j' hj hj' hne i hi
end Go.Proofs.Ytdiljpnfochndaa
