/- A part of the walk: what this seat's statements share. -/
import Derived.Test.YtdiljpnfochndaaZV11
set_option linter.unusedSectionVars false
set_option linter.unusedVariables false
set_option linter.unusedSimpArgs false
/- Guards decided by proof; s[lo:]. -/
namespace Go.Proofs.Ytdiljpnfochndaa.VW
open Go Go.RowKit
section
variable {P : Program} [hT : Tab P] {n : Nat} {ds : List Deferred} {Φ : Post} {k : List It} {ρ : E} {w : World} {all : Array Oper} {l : List Oper} {md : Option (List Oper)}
omit hT in
theorem Ops.yesB {o : Oper} {j : Nat} {want b : Bool} {d d' : Nat} (hdst : o.dst = some d') (hg : o.guard = some (j, want)) (hj : (all[j]?).bind (·.dst) = some d) (hv : VW.look ρ d = some (.bool b)) (hb : b = want)
    (h : Ops md P n ds all k Φ ({ o with guard := none } :: l) ((d, .bool want) :: ρ) w) : Ops md P n ds all k Φ (o :: l) ρ w := Ops.gd hdst hg hj hv (fun _ => h) (fun e => by rw [hb] at e; cases want <;> simp at e)
omit hT in
theorem Ops.noB {o : Oper} {j : Nat} {want b : Bool} {d d' : Nat} (hdst : o.dst = some d') (hg : o.guard = some (j, want)) (hj : (all[j]?).bind (·.dst) = some d) (hv : VW.look ρ d = some (.bool b)) (hb : b = !want)
    (h : Ops md P n ds all k Φ l ((d', undef) :: (d, .bool (!want)) :: ρ) w) : Ops md P n ds all k Φ (o :: l) ρ w := Ops.gd hdst hg hj hv (fun e => by rw [hb] at e; cases want <;> simp at e) (fun _ => h)
/-- s[lo:] -/
theorem Ops.slL {o : Oper} {d t e sz m c : Nat} {x y : Operand} {A : Option Addr} {h : Int} (ho : o.op = .slice t x (some y) none none) (hd : o.dst = some d) (hg : o.guard = none)
    (ht : tyD P t = some (.slice e)) (hs : tyS P e = some sz) (hx : ev ρ x = some (.slice A m c)) (hy : ev ρ y = some (.int .i64 h)) (h0 : 0 ≤ h) (h1 : h ≤ m) (hmc : m ≤ c) (hk : ∀ A' c', (h.toNat < m → A' = A.map fun p => p.add (h.toNat * sz)) → Ops md P n ds all k Φ l ((d, .slice A' (m - h.toNat) c') :: ρ) w) : Ops md P n ds all k Φ (o :: l) ρ w := by
  obtain ⟨q, rfl⟩ := Int.eq_ofNat_of_zero_le h0
  have hq : q ≤ m := by omega
  refine Ops.valS hd hg (fun a hr => ?_) (hk (if c = q then A else A.map fun p => p.add (q * sz)) (c - q) (fun hlt => by rw [if_neg]; rfl; simp at hlt; omega))
  simp [execOp, ho, hr.ev hx, hr.ev hy, Instr.sliceAt, Instr.slice, Instr.sliceBounds, Instr.sliceBound, asIntOf, run_und (td_slice (tyD_ok ht)), run_sizeOf hs, hq]
theorem own_cap {e sz m c : Nat} {A : Option Addr} {xs : List Value} {k : Nat} (h : w.ownsRow 0 e sz (.slice A k c) m xs) : k ≤ c := by
  rcases h.2 with ⟨h, _⟩ | ⟨g, cap, cur, h, _, _, hnc, _⟩
  · simp at h; omega
  · simp at h; omega
theorem sl_drop {α : Type} {enc : α → Value} {z : α} {A A' : Option Addr} {c c' h : Nat} {xs : List α} (hs : Sl enc z w (.slice A xs.length c) xs) (ha : h < xs.length → A' = A.map fun p => p.add (h * 1)) : Sl enc z w (.slice A' (xs.length - h) c') (xs.drop h) := by
  obtain ⟨hm, A2, c2, he, hc⟩ := hs
  simp only [Value.slice.injEq, true_and] at he
  obtain ⟨rfl, rfl⟩ := he
  refine ⟨by rw [List.length_drop]; omega, A', c', by rw [List.length_drop], fun hp => ?_⟩
  rw [List.length_drop] at hp
  obtain ⟨a, rfl, h2⟩ := hc (by omega)
  refine ⟨a.add h, by rw [ha (by omega)]; simp, fun j hj => ?_⟩
  rw [List.length_drop] at hj
  have := h2 (h + j) (by omega)
  rw [show (a.add h).add j = a.add (h + j) by by_cases h0 : h = 0 <;> by_cases j0 : j = 0 <;> simp [Addr.add, h0, j0, Nat.add_assoc], this]
  simp [List.getD_eq_getElem?_getD]
end
end Go.Proofs.Ytdiljpnfochndaa.VW
