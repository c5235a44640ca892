/- A part of the walk: what this seat's statements share. -/
import Derived.Test.YtdiljpnfochndaaZHP2
set_option linter.unusedVariables false
set_option linter.unusedSimpArgs false
namespace Go.Proofs.Ytdiljpnfochndaa.HP
def maxL : List Int → Int
  | [] => 0
  | x :: r => r.foldl max x
def minL : List Int → Int
  | [] => 0
  | x :: r => r.foldl min x
theorem maxL_snoc (l : List Int) (z : Int) (h : l ≠ []) : maxL (l ++ [z]) = max (maxL l) z := by
  cases l with
  | nil => exact absurd rfl h
  | cons a r => simp [maxL, List.foldl_append]
theorem minL_snoc (l : List Int) (z : Int) (h : l ≠ []) : minL (l ++ [z]) = min (minL l) z := by
  cases l with
  | nil => exact absurd rfl h
  | cons a r => simp [minL, List.foldl_append]
theorem take_snoc (l : List Int) (k : Nat) (h : k < l.length) : l.take (k + 1) = l.take k ++ [l.getD k 0] := by
  rw [List.take_succ_eq_append_getElem h]
  simp [List.getD_eq_getElem?_getD, h]
theorem maxL_take (l : List Int) (k : Nat) (h0 : 0 < k) (h : k < l.length) : maxL (l.take (k + 1)) = max (maxL (l.take k)) (l.getD k 0) := by
  rw [take_snoc l k h, maxL_snoc _ _ (by intro e; rw [List.take_eq_nil_iff] at e; rcases e with e | e; omega; subst e; simp at h)]
theorem minL_take (l : List Int) (k : Nat) (h0 : 0 < k) (h : k < l.length) : minL (l.take (k + 1)) = min (minL (l.take k)) (l.getD k 0) := by
  rw [take_snoc l k h, minL_snoc _ _ (by intro e; rw [List.take_eq_nil_iff] at e; rcases e with e | e; omega; subst e; simp at h)]
theorem maxL_one (l : List Int) (h : 0 < l.length) : maxL (l.take 1) = l.getD 0 0 := by
  cases l with
  | nil => simp at h
  | cons a r => rfl
theorem minL_one (l : List Int) (h : 0 < l.length) : minL (l.take 1) = l.getD 0 0 := by
  cases l with
  | nil => simp at h
  | cons a r => rfl
def evB (dep : List Int) (i : Int) : Bool := (rd dep i).tmod 2 == 0
/-- The value of a node out of those of its children. -/
def NV (l : List Nd) (dep : List Int) (wf : Int → Int) (vs : List Int) (j : Int) : Int :=
  if leafB l j then wf j else if evB dep j then maxL ((kid l j).map (rd vs)) else minL ((kid l j).map (rd vs))
structure ValP (l : List Nd) (dep : List Int) (wf : Int → Int) (vs : List Int) : Prop where
  len : vs.length = l.length
  at_ : ∀ j : Nat, j < l.length → vs.getD j 0 = NV l dep wf vs j
theorem mem_kid {l : List Nd} {dep : List Int} (h : TF l dep) {i : Nat} (hi : i < l.length) {c : Int} (hc : c ∈ kid l i) : (i : Int) < c ∧ c < l.length := by
  obtain ⟨b, hb, rfl⟩ := List.mem_iff_getElem.1 hc
  have := h.kin i b hi hb
  simp only [k_, List.getD_eq_getElem?_getD, List.getElem?_eq_getElem hb, Option.getD_some] at this
  exact this
theorem map_rd_congr {l : List Nd} {dep : List Int} (h : TF l dep) {i : Nat} (hi : i < l.length) {vs us : List Int} (he : ∀ j : Nat, i < j → j < l.length → vs.getD j 0 = us.getD j 0) : (kid l i).map (rd vs) = (kid l i).map (rd us) := by
  apply List.map_congr_left
  intro c hc
  obtain ⟨h1, h2⟩ := mem_kid h hi hc
  exact he c.toNat (by omega) (by omega)
theorem NV_congr {l : List Nd} {dep : List Int} (h : TF l dep) {i : Nat} (hi : i < l.length) {wf : Int → Int} {vs us : List Int} (he : ∀ j : Nat, i < j → j < l.length → vs.getD j 0 = us.getD j 0) : NV l dep wf vs i = NV l dep wf us i := by
  unfold NV
  rw [map_rd_congr h hi he]
theorem ValP.uniq {l : List Nd} {dep : List Int} (h : TF l dep) {wf : Int → Int} {vs us : List Int} (hv : ValP l dep wf vs) (hu : ValP l dep wf us) : vs = us := by
  have key : ∀ d j : Nat, l.length - j = d → j < l.length → vs.getD j 0 = us.getD j 0 := by
    intro d
    induction d using Nat.strongRecOn with
    | _ d ih =>
      intro j hd hj
      rw [hv.at_ j hj, hu.at_ j hj]
      exact NV_congr h hj fun q hq hql => ih (l.length - q) (by omega) q rfl hql
  apply List.ext_getElem (by rw [hv.len, hu.len])
  intro j h1 h2
  have := key _ j rfl (by rw [← hv.len]; exact h1)
  simpa [List.getD_eq_getElem?_getD, h1, h2] using this
theorem val_set {l : List Nd} {dep : List Int} (h : TF l dep) {wf : Int → Int} {os : List Int} {q : Nat} (hq : q < l.length) (hol : os.length = l.length) {x : Int} (hx : x = NV l dep wf os q) (hval : ∀ j : Nat, q + 1 ≤ j → j < l.length → os.getD j 0 = NV l dep wf os j) :
    ∀ j : Nat, q ≤ j → j < l.length → (os.set q x).getD j 0 = NV l dep wf (os.set q x) j := by
  intro j h1 h2
  have hc : NV l dep wf (os.set q x) j = NV l dep wf os j := NV_congr h h2 fun i hi hil => getD_set_ne (by omega)
  rw [hc]
  by_cases e : q = j
  · subst e; rw [getD_set_eq (by omega)]; exact hx
  · rw [getD_set_ne e]; exact hval j (by omega) h2
theorem kid_ne {l : List Nd} {i : Int} (h : leafB l i = false) : 0 < (kid l i).length := by
  unfold leafB at h
  cases hk : kid l i with
  | nil => rw [hk] at h; simp at h
  | cons a r => simp
end Go.Proofs.Ytdiljpnfochndaa.HP
