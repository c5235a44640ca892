/- A part of the walk: what this seat's statements share. -/
import Derived.Test.YtdiljpnfochndaaZV8
import Derived.Test.YtdiljpnfochndaaZH0
import Derived.Test.YtdiljpnfochndaaZHP3
set_option linter.unusedSectionVars false
set_option linter.unusedVariables false
set_option linter.unusedSimpArgs false
namespace Go.Proofs.Ytdiljpnfochndaa
open Go Go.RowKit Go.Proofs.Ytdiljpnfochndaa.VW
/-! ### Trees in memory -/
open Go.Proofs.Ytdiljpnfochndaa.HP (Nd kid wor leafB)
def TreeM (w : World) (v : Value) (l : List Nd) : Prop :=
  ∃ A c cvs, v = .slice A l.length c ∧ (0 < l.length → ∃ a, A = some a ∧ ∀ j, j < l.length → w.cell? (a.add (j * 2)) = some (cvs.getD j undef) ∧ w.cell? ((a.add (j * 2)).add 1) = some (.int .i64 (l.getD j ([], 0)).2)) ∧
    ∀ j, j < l.length → SlI w (List.getD cvs j undef) (l.getD j ([], 0)).1
theorem TreeM.below {w w' : World} {v : Value} {l : List Nd} (h : TreeM w v l) (k : Below w.heap.size w w') : TreeM w' v l := by
  obtain ⟨A, c, cvs, rfl, h1, h2⟩ := h
  have kk := Kp.of_below (S := fun _ => False) k
  refine ⟨A, c, cvs, rfl, fun hp => ?_, fun j hj => (h2 j hj).below k⟩
  obtain ⟨a, rfl, hc⟩ := h1 hp
  exact ⟨a, rfl, fun j hj => ⟨cell_kp kk (hc j hj).1 (fun e => e), cell_kp kk (hc j hj).2 (fun e => e)⟩⟩
theorem TreeM.kp {w w' : World} {v : Value} {l : List Nd} {S : Nat → Prop} {B : Nat} (h : TreeM w v l) (k : Kp S w w') (hb : Below B w w') (hB : B = w.heap.size) : TreeM w' v l := by subst hB; exact h.below hb
section
variable {P : Program} [hT : Tab P] {n : Nat} {ds : List Deferred} {Φ : Post} {k : List It} {ρ : E} {w : World} {all : Array Oper} {l : List Oper} {md : Option (List Oper)}
theorem Ops.rdK {o1 o2 o3 : Oper} {d1 d2 d3 t s t' : Nat} {x y : Operand} {v : Value} {i : Int} {tr : List Nd} {w0 : World}
    (h1 : o1.op = .indexAddr t x y) (hd1 : o1.dst = some d1) (hg1 : o1.guard = none) (h2 : o2.op = .fieldAddr s (.tmp d1) 0) (hd2 : o2.dst = some d2) (hg2 : o2.guard = none) (h3 : o3.op = .load t' (.tmp d2)) (hd3 : o3.dst = some d3) (hg3 : o3.guard = none)
    (ht : tyD P t = some (.slice s)) (hs : tyS P s = some 2) (hf : fieldOff P s 0 = some (0, 1)) (ha : tyAgg P t' = some false) (hx : ev ρ x = some v) (hy : ev ρ y = some (.int .i64 i)) (htr : TreeM w0 v tr) (hbel : Below w0.heap.size w0 w) (h0 : 0 ≤ i) (hi : i < tr.length)
    (hk : ∀ cv p q, SlI w0 cv (kid tr i) → Ops md P n ds all k Φ l ((d3, cv) :: (d2, q) :: (d1, p) :: ρ) w) : Ops md P n ds all k Φ (o1 :: o2 :: o3 :: l) ρ w := by
  obtain ⟨A, c, cvs, rfl, h, hc⟩ := htr
  obtain ⟨a, rfl, hcell⟩ := h (by omega)
  have h40 := hcell i.toNat (by omega)
  have kk := Kp.of_below (S := fun _ => False) hbel
  have h4 := And.intro (cell_kp kk h40.1 (fun e => e)) (cell_kp kk h40.2 (fun e => e))
  refine Ops.idx h1 hd1 hg1 ht hs hx hy h0 hi (Ops.fld h2 hd2 hg2 hf (ev_top _ _ _) ?_)
  have e0 : ∀ p : Addr, p.add 0 = p := fun p => by simp [Addr.add]
  rw [e0]
  exact Ops.ld h3 hd3 hg3 ha (ev_top _ _ _) h4.1 (hk _ _ _ (hc i.toNat (by omega)))
theorem Ops.rdW {o1 o2 o3 : Oper} {d1 d2 d3 t s t' : Nat} {x y : Operand} {v : Value} {i : Int} {tr : List Nd} {w0 : World}
    (h1 : o1.op = .indexAddr t x y) (hd1 : o1.dst = some d1) (hg1 : o1.guard = none) (h2 : o2.op = .fieldAddr s (.tmp d1) 1) (hd2 : o2.dst = some d2) (hg2 : o2.guard = none) (h3 : o3.op = .load t' (.tmp d2)) (hd3 : o3.dst = some d3) (hg3 : o3.guard = none)
    (ht : tyD P t = some (.slice s)) (hs : tyS P s = some 2) (hf : fieldOff P s 1 = some (1, 1)) (ha : tyAgg P t' = some false) (hx : ev ρ x = some v) (hy : ev ρ y = some (.int .i64 i)) (htr : TreeM w0 v tr) (hbel : Below w0.heap.size w0 w) (h0 : 0 ≤ i) (hi : i < tr.length)
    (hk : ∀ p q, Ops md P n ds all k Φ l ((d3, .int .i64 (wor tr i)) :: (d2, q) :: (d1, p) :: ρ) w) : Ops md P n ds all k Φ (o1 :: o2 :: o3 :: l) ρ w := by
  obtain ⟨A, c, cvs, rfl, h, hc⟩ := htr
  obtain ⟨a, rfl, hcell⟩ := h (by omega)
  have h40 := hcell i.toNat (by omega)
  have kk := Kp.of_below (S := fun _ => False) hbel
  have h4 := And.intro (cell_kp kk h40.1 (fun e => e)) (cell_kp kk h40.2 (fun e => e))
  exact Ops.idx h1 hd1 hg1 ht hs hx hy h0 hi (Ops.fld h2 hd2 hg2 hf (ev_top _ _ _) (Ops.ld h3 hd3 hg3 ha (ev_top _ _ _) h4.2 (hk _ _)))
theorem Ops.rdN {o1 o2 : Oper} {d1 d2 t s t' : Nat} {x y : Operand} {v : Value} {i : Int} {tr : List Nd} {w0 : World}
    (h1 : o1.op = .indexAddr t x y) (hd1 : o1.dst = some d1) (hg1 : o1.guard = none) (h2 : o2.op = .load t' (.tmp d1)) (hd2 : o2.dst = some d2) (hg2 : o2.guard = none)
    (ht : tyD P t = some (.slice s)) (hs : tyS P s = some 2) (hs' : tyS P t' = some 2) (ha : tyAgg P t' = some true) (hx : ev ρ x = some v) (hy : ev ρ y = some (.int .i64 i)) (htr : TreeM w0 v tr) (hbel : Below w0.heap.size w0 w) (h0 : 0 ≤ i) (hi : i < tr.length)
    (hk : ∀ cv p, SlI w0 cv (kid tr i) → Ops md P n ds all k Φ l ((d2, .agg #[cv, .int .i64 (wor tr i)]) :: (d1, p) :: ρ) w) : Ops md P n ds all k Φ (o1 :: o2 :: l) ρ w := by
  obtain ⟨A, c, cvs, rfl, h, hc⟩ := htr
  obtain ⟨a, rfl, hcell⟩ := h (by omega)
  have h40 := hcell i.toNat (by omega)
  have kk := Kp.of_below (S := fun _ => False) hbel
  have h4 := And.intro (cell_kp kk h40.1 (fun e => e)) (cell_kp kk h40.2 (fun e => e))
  exact Ops.idx h1 hd1 hg1 ht hs hx hy h0 hi (Ops.ld2 h2 hd2 hg2 ha hs' (ev_top _ _ _) h4.1 h4.2 (hk _ _ (hc i.toNat (by omega))))
end
/-- A game in memory: at block g; its tree and its depths. -/
structure Game (w : World) (g : Nat) (l : List Nd) (dep : List Int) : Prop where
  mk :: (out : ∃ tv dv, Blk w g #[tv, dv] 100 ∧ TreeM w tv l ∧ SlI w dv dep)
theorem Game.below {w w' : World} {g : Nat} {l : List Nd} {dep : List Int} (h : Game w g l dep) (k : Below w.heap.size w w') : Game w' g l dep := by
  obtain ⟨tv, dv, h1, h2, h3⟩ := h.out
  exact ⟨tv, dv, h1.kp (Kp.of_below (S := fun _ => False) k) (fun e => e), h2.below k, h3.below k⟩
theorem TreeM.sl {w : World} {v : Value} {l : List Nd} (h : TreeM w v l) : ∃ A c, v = .slice A l.length c := by obtain ⟨A, c, _, rfl, _⟩ := h; exact ⟨A, c, rfl⟩
theorem Sl.sl {α : Type} {enc : α → Value} {z : α} {w : World} {v : Value} {xs : List α} (h : Sl enc z w v xs) : ∃ A c, v = .slice A xs.length c := by obtain ⟨_, A, c, rfl, _⟩ := h; exact ⟨A, c, rfl⟩
attribute [local irreducible] W Ops
theorem within_c (n lo hi : Int) (w : World) : Calls Try.prog 90 #[.int .i64 n, .int .i64 lo, .int .i64 hi] w (Ret fun v w' => v = .bool (decide (lo ≤ n) && decide (n ≤ hi)) ∧ w' = w) := by
  refine calls_W (vs := [_, _, _]) Try.func90 rfl (by kernel_rfl) rfl ?_
  (repeat (first | with_reducible refine W.seq ?_ | with_reducible refine Ops.nil ?_ | with_reducible refine W.region ?_ | refine Ops.pu rfl rfl rfl ?_ | refine Ops.ar rfl rfl rfl (by omega) ?_ | refine Ops.yes rfl rfl rfl ?_ | refine Ops.no rfl rfl rfl rfl rfl ?_ | refine Ops.nu rfl rfl rfl rfl ?_ | with_reducible refine W.skip ?_ | with_reducible refine W.endb ?_ | with_reducible refine W.block ?_ | refine W.exit rfl ?_ | refine Ops.len rfl rfl rfl rfl rfl ?_ | refine Ops.flp rfl rfl rfl rfl rfl ?_ | refine Ops.max rfl rfl rfl rfl rfl ?_ | refine Ops.min rfl rfl rfl rfl rfl ?_ | refine Ops.eqB rfl rfl rfl rfl rfl rfl ?_ | refine Ops.neB rfl rfl rfl rfl rfl rfl ?_ | (apply Ops.ldB rfl rfl rfl rfl rfl; assumption; rfl)))
  refine Ops.gd rfl rfl rfl rfl (fun h => ?_) (fun h => ?_)
  · (repeat (first | with_reducible refine W.seq ?_ | with_reducible refine Ops.nil ?_ | with_reducible refine W.region ?_ | refine Ops.pu rfl rfl rfl ?_ | refine Ops.ar rfl rfl rfl (by omega) ?_ | refine Ops.yes rfl rfl rfl ?_ | refine Ops.no rfl rfl rfl rfl rfl ?_ | refine Ops.nu rfl rfl rfl rfl ?_ | with_reducible refine W.skip ?_ | with_reducible refine W.endb ?_ | with_reducible refine W.block ?_ | refine W.exit rfl ?_ | refine Ops.len rfl rfl rfl rfl rfl ?_ | refine Ops.flp rfl rfl rfl rfl rfl ?_ | refine Ops.max rfl rfl rfl rfl rfl ?_ | refine Ops.min rfl rfl rfl rfl rfl ?_ | refine Ops.eqB rfl rfl rfl rfl rfl rfl ?_ | refine Ops.neB rfl rfl rfl rfl rfl rfl ?_ | (apply Ops.ldB rfl rfl rfl rfl rfl; assumption; rfl)))
    refine W.fret rfl ⟨?_, rfl⟩
    simp at h
    simp [resV, h]
  · (repeat (first | with_reducible refine W.seq ?_ | with_reducible refine Ops.nil ?_ | with_reducible refine W.region ?_ | refine Ops.pu rfl rfl rfl ?_ | refine Ops.ar rfl rfl rfl (by omega) ?_ | refine Ops.yes rfl rfl rfl ?_ | refine Ops.no rfl rfl rfl rfl rfl ?_ | refine Ops.nu rfl rfl rfl rfl ?_ | with_reducible refine W.skip ?_ | with_reducible refine W.endb ?_ | with_reducible refine W.block ?_ | refine W.exit rfl ?_ | refine Ops.len rfl rfl rfl rfl rfl ?_ | refine Ops.flp rfl rfl rfl rfl rfl ?_ | refine Ops.max rfl rfl rfl rfl rfl ?_ | refine Ops.min rfl rfl rfl rfl rfl ?_ | refine Ops.eqB rfl rfl rfl rfl rfl rfl ?_ | refine Ops.neB rfl rfl rfl rfl rfl rfl ?_ | (apply Ops.ldB rfl rfl rfl rfl rfl; assumption; rfl)))
    refine W.fret rfl ⟨?_, rfl⟩
    simp at h
    simp [resV]; omega
theorem isLeaf_c {w : World} {g : Nat} {l : List Nd} {dep : List Int} (hG : Game w g l dep) (i : Int) (h0 : 0 ≤ i) (h1 : i < l.length) :
    Calls Try.prog 74 #[.pointer (some ⟨g, 0, none⟩), .int .i64 i] w (Ret fun v w' => v = .bool (leafB l i) ∧ w' = w) := by
  obtain ⟨tv, dv, hB, hT, hD⟩ := hG.out
  refine calls_W (vs := [_, _]) Try.func74 rfl (by kernel_rfl) rfl ?_
  (repeat (first | with_reducible refine W.seq ?_ | with_reducible refine Ops.nil ?_ | with_reducible refine W.region ?_ | refine Ops.pu rfl rfl rfl ?_ | refine Ops.ar rfl rfl rfl (by omega) ?_ | refine Ops.yes rfl rfl rfl ?_ | refine Ops.no rfl rfl rfl rfl rfl ?_ | refine Ops.nu rfl rfl rfl rfl ?_ | with_reducible refine W.skip ?_ | with_reducible refine W.endb ?_ | with_reducible refine W.block ?_ | refine W.exit rfl ?_ | refine Ops.len rfl rfl rfl rfl rfl ?_ | refine Ops.flp rfl rfl rfl rfl rfl ?_ | refine Ops.max rfl rfl rfl rfl rfl ?_ | refine Ops.min rfl rfl rfl rfl rfl ?_ | refine Ops.eqB rfl rfl rfl rfl rfl rfl ?_ | refine Ops.neB rfl rfl rfl rfl rfl rfl ?_ | (apply Ops.ldB rfl rfl rfl rfl rfl; assumption; rfl)))
  refine Ops.rdK rfl rfl rfl rfl rfl rfl rfl rfl rfl rfl rfl rfl rfl rfl rfl hT (Below.refl _ _) h0 h1 (fun cv p q hcv => ?_)
  obtain ⟨A, c, rfl⟩ := Sl.sl hcv
  (repeat (first | with_reducible refine W.seq ?_ | with_reducible refine Ops.nil ?_ | with_reducible refine W.region ?_ | refine Ops.pu rfl rfl rfl ?_ | refine Ops.ar rfl rfl rfl (by omega) ?_ | refine Ops.yes rfl rfl rfl ?_ | refine Ops.no rfl rfl rfl rfl rfl ?_ | refine Ops.nu rfl rfl rfl rfl ?_ | with_reducible refine W.skip ?_ | with_reducible refine W.endb ?_ | with_reducible refine W.block ?_ | refine W.exit rfl ?_ | refine Ops.len rfl rfl rfl rfl rfl ?_ | refine Ops.flp rfl rfl rfl rfl rfl ?_ | refine Ops.max rfl rfl rfl rfl rfl ?_ | refine Ops.min rfl rfl rfl rfl rfl ?_ | refine Ops.eqB rfl rfl rfl rfl rfl rfl ?_ | refine Ops.neB rfl rfl rfl rfl rfl rfl ?_ | (apply Ops.ldB rfl rfl rfl rfl rfl; assumption; rfl)))
  refine W.fret rfl ⟨?_, rfl⟩
  simp only [resV, leafB]
  cases kid l i <;> simp
  omega
end Go.Proofs.Ytdiljpnfochndaa
