/- The plain side of the trees. -/
namespace Go.Proofs.Ytdiljpnfochndaa.HP
abbrev Nd := List Int × Int
abbrev rd (xs : List Int) (i : Int) : Int := xs.getD i.toNat 0
def kid (l : List Nd) (i : Int) : List Int := (l.getD i.toNat ([], 0)).1
def wor (l : List Nd) (i : Int) : Int := (l.getD i.toNat ([], 0)).2
def leafB (l : List Nd) (i : Int) : Bool := (kid l i).isEmpty
/-- The depths below one node. -/
def kidsStep (n i : Int) : List Int → List Int → Option (List Int)
  | [], dep => some dep
  | c :: cs, dep => if i + 1 ≤ c ∧ c ≤ n - 1 ∧ rd dep c ≤ 0 then kidsStep n i cs (dep.set c.toNat (rd dep i + 1)) else none
def nodesStep (n : Int) : Int → List Nd → List Int → Option (List Int)
  | _, [], dep => some dep
  | i, x :: r, dep => if (0 < i ∧ rd dep i = 0) ∨ ¬ (-100 ≤ x.2 ∧ x.2 ≤ 100) ∨ (0 < x.1.length ∧ x.2 ≠ 0) then none else (kidsStep n i x.1 dep).bind (nodesStep n (i + 1) r)
def cnt (dep : List Int) : Nat := dep.countP fun x => decide (0 < x)
/-- The depths of a tree; none: it is no tree. -/
def gameOf (l : List Nd) : Option (List Int) :=
  if 1 ≤ l.length ∧ l.length ≤ 60 then (nodesStep l.length 0 l (List.replicate l.length 0)).bind fun dep => if 1 + cnt dep = l.length then some dep else none else none
theorem drop_get {α : Type} (l : List α) (i : Nat) (z : α) (h : i < l.length) : l.drop i = l.getD i z :: l.drop (i + 1) := by
  rw [List.drop_eq_getElem_cons h]
  congr 1
  simp [List.getD_eq_getElem?_getD, h]
theorem nodes_at (n : Int) (l : List Nd) (i : Nat) (dep : List Int) (h : i < l.length) : nodesStep n i (l.drop i) dep =
    if (0 < (i : Int) ∧ rd dep i = 0) ∨ ¬ (-100 ≤ wor l i ∧ wor l i ≤ 100) ∨ (0 < (kid l i).length ∧ wor l i ≠ 0) then none else (kidsStep n i (kid l i) dep).bind (nodesStep n (i + 1) (l.drop (i + 1))) := by
  rw [drop_get l i ([], 0) h]
  simp only [nodesStep, kid, wor, Int.toNat_natCast]
  congr
theorem kids_at (n i : Int) (cs : List Int) (j : Nat) (dep : List Int) (h : j < cs.length) : kidsStep n i (cs.drop j) dep =
    if i + 1 ≤ cs.getD j 0 ∧ cs.getD j 0 ≤ n - 1 ∧ rd dep (cs.getD j 0) ≤ 0 then kidsStep n i (cs.drop (j + 1)) (dep.set (cs.getD j 0).toNat (rd dep i + 1)) else none := by
  rw [drop_get cs j 0 h]
  simp only [kidsStep]
theorem cnt_set {dep : List Int} {c : Nat} {x : Int} (hc : c < dep.length) (h0 : dep.getD c 0 ≤ 0) (hx : 0 < x) : cnt (dep.set c x) = cnt dep + 1 := by
  unfold cnt
  induction dep generalizing c with
  | nil => simp at hc
  | cons a r ih =>
    cases c with
    | zero => simp at h0 hc; simp [List.countP_cons, hx]; omega
    | succ c =>
      simp only [List.set_cons_succ, List.countP_cons]
      rw [ih (by simpa using hc) (by simpa using h0)]
      omega
theorem cnt_le (dep : List Int) : cnt dep ≤ dep.length := List.countP_le_length
end Go.Proofs.Ytdiljpnfochndaa.HP
