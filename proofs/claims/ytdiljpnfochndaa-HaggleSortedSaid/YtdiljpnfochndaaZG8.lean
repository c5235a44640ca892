/- A part of the walk: what this seat's statements share. -/
import Derived.Test.YtdiljpnfochndaaZG7
import Derived.Test.YtdiljpnfochndaaZG2
import Derived.Test.YtdiljpnfochndaaZG3
import Derived.Laws.CopyRow
import Derived.RangeFuncCalls
import Derived.OrdersIn
import Derived.TacticsIn
set_option linter.unusedVariables false
set_option linter.unusedSimpArgs false
set_option linter.unusedSectionVars false
/- Reading trees, by facts that were told earlier. -/
namespace Go.Proofs.Ytdiljpnfochndaa
open Go Go.RowKit Go.Proofs.Ytdiljpnfochndaa.VW
open Go.Proofs.Ytdiljpnfochndaa.HP (Nd kid wor leafB)
section
variable {P : Program} [hT : Tab P] {n : Nat} {ds : List Deferred} {Φ : Post} {k : List It} {ρ : E} {w : World} {all : Array Oper} {l : List Oper} {md : Option (List Oper)} {s : Nat} {F : World → Prop} {π : List (Nat × Nat)} {L : List Bool}
theorem TreeM.at_ {w0 : World} {v : Value} {tr : List Nd} (h : TreeM w0 v tr) {i : Int} (h0 : 0 ≤ i) (hi : i < tr.length) : ∃ a c A' c', v = .slice (some a) tr.length c ∧ SlI w0 (.slice A' (kid tr i).length c') (kid tr i) ∧
    (∀ w, Below w0.heap.size w0 w → w.cell? (a.add (i.toNat * 2)) = some (.slice A' (kid tr i).length c') ∧ w.cell? ((a.add (i.toNat * 2)).add 1) = some (.int .i64 (wor tr i))) := by
  obtain ⟨A, c, cvs, rfl, h, hc⟩ := h
  obtain ⟨a, rfl, hcell⟩ := h (by omega)
  have h4 := hcell i.toNat (by omega)
  have h5 := hc i.toNat (by omega)
  obtain ⟨A', c', e⟩ := Sl.sl h5
  rw [e] at h4 h5
  refine ⟨a, c, A', c', rfl, h5, fun w hb => ?_⟩
  have kk := Kp.of_below (S := fun _ => False) hb
  exact ⟨cell_kp kk h4.1 (fun e => e), cell_kp kk h4.2 (fun e => e)⟩
theorem add_zero' (p : Addr) : p.add 0 = p := by simp [Addr.add]
theorem Ops.rdKB {o1 o2 o3 : Oper} {d1 d2 d3 t s t' : Nat} {x y : Operand} {v : Value} {i : Int} {tr : List Nd} {w0 : World} {c1 c2 c3 : Bool}
    (h1 : o1.op = .indexAddr t x y) (hd1 : o1.dst = some d1) (hg1 : gdB all ρ o1.guard = some c1) (hc1 : c1 = true) (h2 : o2.op = .fieldAddr s (.tmp d1) 0) (hd2 : o2.dst = some d2) (hg2 : ∀ p, gdB all ((d1, .pointer p) :: ρ) o2.guard = some c2) (hc2 : c2 = true) (h3 : o3.op = .load t' (.tmp d2)) (hd3 : o3.dst = some d3) (hg3 : ∀ p q, gdB all ((d2, .pointer q) :: (d1, .pointer p) :: ρ) o3.guard = some c3) (hc3 : c3 = true)
    (ht : tyD P t = some (.slice s)) (hs : tyS P s = some 2) (hf : fieldOff P s 0 = some (0, 1)) (ha : tyAgg P t' = some false) (hx : ev ρ x = some v) (hy : ev ρ y = some (.int .i64 i)) (htr : TreeM w0 v tr) (hbel : Below w0.heap.size w0 w) (h0 : 0 ≤ i) (hi : i < tr.length)
    (hk : ∀ A c p q, SlI w0 (.slice A (kid tr i).length c) (kid tr i) → Ops md P n ds all k Φ l ((d3, .slice A (kid tr i).length c) :: (d2, q) :: (d1, p) :: ρ) w) : Ops md P n ds all k Φ (o1 :: o2 :: o3 :: l) ρ w := by
  obtain ⟨a, c, A', c', rfl, hsl, hcell⟩ := htr.at_ h0 hi
  refine Ops.evG hd1 hg1 hc1 (EV.idx h1 ht hs hx hy h0 hi) (Ops.evG hd2 (hg2 _) hc2 (EV.fld h2 hf (ev_top _ _ _)) ?_)
  rw [add_zero']
  exact Ops.evG hd3 (hg3 _ _) hc3 (EV.ld h3 ha (ev_top _ _ _) (hcell w hbel).1) (hk _ _ _ _ hsl)
theorem Ops.rdWB {o1 o2 o3 : Oper} {d1 d2 d3 t s t' : Nat} {x y : Operand} {v : Value} {i : Int} {tr : List Nd} {w0 : World} {c1 c2 c3 : Bool}
    (h1 : o1.op = .indexAddr t x y) (hd1 : o1.dst = some d1) (hg1 : gdB all ρ o1.guard = some c1) (hc1 : c1 = true) (h2 : o2.op = .fieldAddr s (.tmp d1) 1) (hd2 : o2.dst = some d2) (hg2 : ∀ p, gdB all ((d1, .pointer p) :: ρ) o2.guard = some c2) (hc2 : c2 = true) (h3 : o3.op = .load t' (.tmp d2)) (hd3 : o3.dst = some d3) (hg3 : ∀ p q, gdB all ((d2, .pointer q) :: (d1, .pointer p) :: ρ) o3.guard = some c3) (hc3 : c3 = true)
    (ht : tyD P t = some (.slice s)) (hs : tyS P s = some 2) (hf : fieldOff P s 1 = some (1, 1)) (ha : tyAgg P t' = some false) (hx : ev ρ x = some v) (hy : ev ρ y = some (.int .i64 i)) (htr : TreeM w0 v tr) (hbel : Below w0.heap.size w0 w) (h0 : 0 ≤ i) (hi : i < tr.length)
    (hk : ∀ p q, Ops md P n ds all k Φ l ((d3, .int .i64 (wor tr i)) :: (d2, q) :: (d1, p) :: ρ) w) : Ops md P n ds all k Φ (o1 :: o2 :: o3 :: l) ρ w := by
  obtain ⟨a, c, A', c', rfl, hsl, hcell⟩ := htr.at_ h0 hi
  exact Ops.evG hd1 hg1 hc1 (EV.idx h1 ht hs hx hy h0 hi) (Ops.evG hd2 (hg2 _) hc2 (EV.fld h2 hf (ev_top _ _ _)) (Ops.evG hd3 (hg3 _ _) hc3 (EV.ld h3 ha (ev_top _ _ _) (hcell w hbel).2) (hk _ _)))
theorem Ops.rdNB {o1 o2 : Oper} {d1 d2 t s t' : Nat} {x y : Operand} {v : Value} {i : Int} {tr : List Nd} {w0 : World} {c1 c2 : Bool}
    (h1 : o1.op = .indexAddr t x y) (hd1 : o1.dst = some d1) (hg1 : gdB all ρ o1.guard = some c1) (hc1 : c1 = true) (h2 : o2.op = .load t' (.tmp d1)) (hd2 : o2.dst = some d2) (hg2 : ∀ p, gdB all ((d1, .pointer p) :: ρ) o2.guard = some c2) (hc2 : c2 = true)
    (ht : tyD P t = some (.slice s)) (hs : tyS P s = some 2) (hs' : tyS P t' = some 2) (ha : tyAgg P t' = some true) (hx : ev ρ x = some v) (hy : ev ρ y = some (.int .i64 i)) (htr : TreeM w0 v tr) (hbel : Below w0.heap.size w0 w) (h0 : 0 ≤ i) (hi : i < tr.length)
    (hk : ∀ A c p, SlI w0 (.slice A (kid tr i).length c) (kid tr i) → Ops md P n ds all k Φ l ((d2, .agg #[.slice A (kid tr i).length c, .int .i64 (wor tr i)]) :: (d1, p) :: ρ) w) : Ops md P n ds all k Φ (o1 :: o2 :: l) ρ w := by
  obtain ⟨a, c, A', c', rfl, hsl, hcell⟩ := htr.at_ h0 hi
  exact Ops.evG hd1 hg1 hc1 (EV.idx h1 ht hs hx hy h0 hi) (Ops.evG hd2 (hg2 _) hc2 (EV.ld2 h2 ha hs' (ev_top _ _ _) (hcell w hbel).1 (hcell w hbel).2) (hk _ _ _ hsl))
theorem OrdA.rdK {i1 i2 i3 d1 d2 d3 t s' t' : Nat} {o1 o2 o3 : Oper} {x y : Operand} {v : Value} {i : Int} {tr : List Nd} {w0 : World} {c1 c2 c3 : Bool}
    (e1 : all[i1]? = some o1) (h1 : o1.op = .indexAddr t x y) (hd1 : o1.dst = some d1) (hg1 : gdB all ρ o1.guard = some c1) (hc1 : c1 = true) (e2 : all[i2]? = some o2) (h2 : o2.op = .fieldAddr s' (.tmp d1) 0) (hd2 : o2.dst = some d2) (hg2 : ∀ p, gdB all ((d1, .pointer p) :: ρ) o2.guard = some c2) (hc2 : c2 = true)
    (e3 : all[i3]? = some o3) (h3 : o3.op = .load t' (.tmp d2)) (hd3 : o3.dst = some d3) (hg3 : ∀ p q, gdB all ((d2, .pointer q) :: (d1, .pointer p) :: ρ) o3.guard = some c3) (hc3 : c3 = true)
    (ht : tyD P t = some (.slice s')) (hs : tyS P s' = some 2) (hf : fieldOff P s' 0 = some (0, 1)) (ha : tyAgg P t' = some false) (hx : ev ρ x = some v) (hy : ev ρ y = some (.int .i64 i)) (htr : TreeM w0 v tr) (hF : ∀ w, F w → Below w0.heap.size w0 w) (h0 : 0 ≤ i) (hi : i < tr.length)
    (hk : ∀ A c p q, SlI w0 (.slice A (kid tr i).length c) (kid tr i) → OrdA P n ds all k Φ s F π (((L.set i1 true).set i2 true).set i3 true) ((d3, .slice A (kid tr i).length c) :: (d2, q) :: (d1, p) :: ρ)) : OrdA P n ds all k Φ s F ((i1, 1) :: (i2, 1) :: (i3, 2) :: π) L ρ := by
  obtain ⟨a, c, A', c', rfl, hsl, hcell⟩ := htr.at_ h0 hi
  refine OrdA.pure e1 hd1 hg1 hc1 (fun w => EV.idx h1 ht hs hx hy h0 hi) (OrdA.pure e2 hd2 (hg2 _) hc2 (fun w => EV.fld h2 hf (ev_top _ _ _)) ?_)
  rw [add_zero']
  exact OrdA.read e3 hd3 (hg3 _ _) hc3 (fun w hw => EV.ld h3 ha (ev_top _ _ _) (hcell w (hF w hw)).1) (hk _ _ _ _ hsl)
theorem OrdA.rdW {i1 i2 i3 d1 d2 d3 t s' t' : Nat} {o1 o2 o3 : Oper} {x y : Operand} {v : Value} {i : Int} {tr : List Nd} {w0 : World} {c1 c2 c3 : Bool}
    (e1 : all[i1]? = some o1) (h1 : o1.op = .indexAddr t x y) (hd1 : o1.dst = some d1) (hg1 : gdB all ρ o1.guard = some c1) (hc1 : c1 = true) (e2 : all[i2]? = some o2) (h2 : o2.op = .fieldAddr s' (.tmp d1) 1) (hd2 : o2.dst = some d2) (hg2 : ∀ p, gdB all ((d1, .pointer p) :: ρ) o2.guard = some c2) (hc2 : c2 = true)
    (e3 : all[i3]? = some o3) (h3 : o3.op = .load t' (.tmp d2)) (hd3 : o3.dst = some d3) (hg3 : ∀ p q, gdB all ((d2, .pointer q) :: (d1, .pointer p) :: ρ) o3.guard = some c3) (hc3 : c3 = true)
    (ht : tyD P t = some (.slice s')) (hs : tyS P s' = some 2) (hf : fieldOff P s' 1 = some (1, 1)) (ha : tyAgg P t' = some false) (hx : ev ρ x = some v) (hy : ev ρ y = some (.int .i64 i)) (htr : TreeM w0 v tr) (hF : ∀ w, F w → Below w0.heap.size w0 w) (h0 : 0 ≤ i) (hi : i < tr.length)
    (hk : ∀ p q, OrdA P n ds all k Φ s F π (((L.set i1 true).set i2 true).set i3 true) ((d3, .int .i64 (wor tr i)) :: (d2, q) :: (d1, p) :: ρ)) : OrdA P n ds all k Φ s F ((i1, 1) :: (i2, 1) :: (i3, 2) :: π) L ρ := by
  obtain ⟨a, c, A', c', rfl, hsl, hcell⟩ := htr.at_ h0 hi
  exact OrdA.pure e1 hd1 hg1 hc1 (fun w => EV.idx h1 ht hs hx hy h0 hi) (OrdA.pure e2 hd2 (hg2 _) hc2 (fun w => EV.fld h2 hf (ev_top _ _ _)) (OrdA.read e3 hd3 (hg3 _ _) hc3 (fun w hw => EV.ld h3 ha (ev_top _ _ _) (hcell w (hF w hw)).2) (hk _ _)))
theorem OrdA.rdN {i1 i2 d1 d2 t s' t' : Nat} {o1 o2 : Oper} {x y : Operand} {v : Value} {i : Int} {tr : List Nd} {w0 : World} {c1 c2 : Bool}
    (e1 : all[i1]? = some o1) (h1 : o1.op = .indexAddr t x y) (hd1 : o1.dst = some d1) (hg1 : gdB all ρ o1.guard = some c1) (hc1 : c1 = true) (e2 : all[i2]? = some o2) (h2 : o2.op = .load t' (.tmp d1)) (hd2 : o2.dst = some d2) (hg2 : ∀ p, gdB all ((d1, .pointer p) :: ρ) o2.guard = some c2) (hc2 : c2 = true)
    (ht : tyD P t = some (.slice s')) (hs : tyS P s' = some 2) (hs' : tyS P t' = some 2) (ha : tyAgg P t' = some true) (hx : ev ρ x = some v) (hy : ev ρ y = some (.int .i64 i)) (htr : TreeM w0 v tr) (hF : ∀ w, F w → Below w0.heap.size w0 w) (h0 : 0 ≤ i) (hi : i < tr.length)
    (hk : ∀ A c p, SlI w0 (.slice A (kid tr i).length c) (kid tr i) → OrdA P n ds all k Φ s F π ((L.set i1 true).set i2 true) ((d2, .agg #[.slice A (kid tr i).length c, .int .i64 (wor tr i)]) :: (d1, p) :: ρ)) : OrdA P n ds all k Φ s F ((i1, 1) :: (i2, 2) :: π) L ρ := by
  obtain ⟨a, c, A', c', rfl, hsl, hcell⟩ := htr.at_ h0 hi
  exact OrdA.pure e1 hd1 hg1 hc1 (fun w => EV.idx h1 ht hs hx hy h0 hi) (OrdA.read e2 hd2 (hg2 _) hc2 (fun w hw => EV.ld2 h2 ha hs' (ev_top _ _ _) (hcell w (hF w hw)).1 (hcell w (hF w hw)).2) (hk _ _ _ hsl))
theorem _root_.Go.Proofs.Ytdiljpnfochndaa.VW.Ord.rdK {i1 i2 i3 d1 d2 d3 t s' t' : Nat} {o1 o2 o3 : Oper} {x y : Operand} {v : Value} {i : Int} {tr : List Nd} {w0 : World} {c1 c2 c3 : Bool}
    (e1 : all[i1]? = some o1) (h1 : o1.op = .indexAddr t x y) (hd1 : o1.dst = some d1) (hg1 : gdB all ρ o1.guard = some c1) (hc1 : c1 = true) (e2 : all[i2]? = some o2) (h2 : o2.op = .fieldAddr s' (.tmp d1) 0) (hd2 : o2.dst = some d2) (hg2 : ∀ p, gdB all ((d1, .pointer p) :: ρ) o2.guard = some c2) (hc2 : c2 = true)
    (e3 : all[i3]? = some o3) (h3 : o3.op = .load t' (.tmp d2)) (hd3 : o3.dst = some d3) (hg3 : ∀ p q, gdB all ((d2, .pointer q) :: (d1, .pointer p) :: ρ) o3.guard = some c3) (hc3 : c3 = true)
    (ht : tyD P t = some (.slice s')) (hs : tyS P s' = some 2) (hf : fieldOff P s' 0 = some (0, 1)) (ha : tyAgg P t' = some false) (hx : ev ρ x = some v) (hy : ev ρ y = some (.int .i64 i)) (htr : TreeM w0 v tr) (hF : ∀ w, F w → Below w0.heap.size w0 w) (h0 : 0 ≤ i) (hi : i < tr.length)
    (hΦ : ∀ c ρ w, ¬ Φ (.panic c) ρ w) (hk : ∀ A c p q, SlI w0 (.slice A (kid tr i).length c) (kid tr i) → VW.Ord P n ds all k Φ s F π (((L.set i1 true).set i2 true).set i3 true) ((d3, .slice A (kid tr i).length c) :: (d2, q) :: (d1, p) :: ρ) w) : VW.Ord P n ds all k Φ s F ((i1, 1) :: (i2, 1) :: (i3, 2) :: π) L ρ w := by
  obtain ⟨a, c, A', c', rfl, hsl, hcell⟩ := htr.at_ h0 hi
  refine VW.Ord.pure e1 hd1 hg1 hc1 hΦ (fun w => EV.idx h1 ht hs hx hy h0 hi) (VW.Ord.pure e2 hd2 (hg2 _) hc2 hΦ (fun w => EV.fld h2 hf (ev_top _ _ _)) ?_)
  rw [add_zero']
  exact VW.Ord.read' e3 hd3 (hg3 _ _) hc3 hΦ (fun w hw => EV.ld h3 ha (ev_top _ _ _) (hcell w (hF w hw)).1) (hk _ _ _ _ hsl)
theorem _root_.Go.Proofs.Ytdiljpnfochndaa.VW.Ord.rdW {i1 i2 i3 d1 d2 d3 t s' t' : Nat} {o1 o2 o3 : Oper} {x y : Operand} {v : Value} {i : Int} {tr : List Nd} {w0 : World} {c1 c2 c3 : Bool}
    (e1 : all[i1]? = some o1) (h1 : o1.op = .indexAddr t x y) (hd1 : o1.dst = some d1) (hg1 : gdB all ρ o1.guard = some c1) (hc1 : c1 = true) (e2 : all[i2]? = some o2) (h2 : o2.op = .fieldAddr s' (.tmp d1) 1) (hd2 : o2.dst = some d2) (hg2 : ∀ p, gdB all ((d1, .pointer p) :: ρ) o2.guard = some c2) (hc2 : c2 = true)
    (e3 : all[i3]? = some o3) (h3 : o3.op = .load t' (.tmp d2)) (hd3 : o3.dst = some d3) (hg3 : ∀ p q, gdB all ((d2, .pointer q) :: (d1, .pointer p) :: ρ) o3.guard = some c3) (hc3 : c3 = true)
    (ht : tyD P t = some (.slice s')) (hs : tyS P s' = some 2) (hf : fieldOff P s' 1 = some (1, 1)) (ha : tyAgg P t' = some false) (hx : ev ρ x = some v) (hy : ev ρ y = some (.int .i64 i)) (htr : TreeM w0 v tr) (hF : ∀ w, F w → Below w0.heap.size w0 w) (h0 : 0 ≤ i) (hi : i < tr.length)
    (hΦ : ∀ c ρ w, ¬ Φ (.panic c) ρ w) (hk : ∀ p q, VW.Ord P n ds all k Φ s F π (((L.set i1 true).set i2 true).set i3 true) ((d3, .int .i64 (wor tr i)) :: (d2, q) :: (d1, p) :: ρ) w) : VW.Ord P n ds all k Φ s F ((i1, 1) :: (i2, 1) :: (i3, 2) :: π) L ρ w := by
  obtain ⟨a, c, A', c', rfl, hsl, hcell⟩ := htr.at_ h0 hi
  exact VW.Ord.pure e1 hd1 hg1 hc1 hΦ (fun w => EV.idx h1 ht hs hx hy h0 hi) (VW.Ord.pure e2 hd2 (hg2 _) hc2 hΦ (fun w => EV.fld h2 hf (ev_top _ _ _)) (VW.Ord.read' e3 hd3 (hg3 _ _) hc3 hΦ (fun w hw => EV.ld h3 ha (ev_top _ _ _) (hcell w (hF w hw)).2) (hk _ _)))
theorem _root_.Go.Proofs.Ytdiljpnfochndaa.VW.Ord.rdN {i1 i2 d1 d2 t s' t' : Nat} {o1 o2 : Oper} {x y : Operand} {v : Value} {i : Int} {tr : List Nd} {w0 : World} {c1 c2 : Bool}
    (e1 : all[i1]? = some o1) (h1 : o1.op = .indexAddr t x y) (hd1 : o1.dst = some d1) (hg1 : gdB all ρ o1.guard = some c1) (hc1 : c1 = true) (e2 : all[i2]? = some o2) (h2 : o2.op = .load t' (.tmp d1)) (hd2 : o2.dst = some d2) (hg2 : ∀ p, gdB all ((d1, .pointer p) :: ρ) o2.guard = some c2) (hc2 : c2 = true)
    (ht : tyD P t = some (.slice s')) (hs : tyS P s' = some 2) (hs' : tyS P t' = some 2) (ha : tyAgg P t' = some true) (hx : ev ρ x = some v) (hy : ev ρ y = some (.int .i64 i)) (htr : TreeM w0 v tr) (hF : ∀ w, F w → Below w0.heap.size w0 w) (h0 : 0 ≤ i) (hi : i < tr.length)
    (hΦ : ∀ c ρ w, ¬ Φ (.panic c) ρ w) (hk : ∀ A c p, SlI w0 (.slice A (kid tr i).length c) (kid tr i) → VW.Ord P n ds all k Φ s F π ((L.set i1 true).set i2 true) ((d2, .agg #[.slice A (kid tr i).length c, .int .i64 (wor tr i)]) :: (d1, p) :: ρ) w) : VW.Ord P n ds all k Φ s F ((i1, 1) :: (i2, 2) :: π) L ρ w := by
  obtain ⟨a, c, A', c', rfl, hsl, hcell⟩ := htr.at_ h0 hi
  exact VW.Ord.pure e1 hd1 hg1 hc1 hΦ (fun w => EV.idx h1 ht hs hx hy h0 hi) (VW.Ord.read' e2 hd2 (hg2 _) hc2 hΦ (fun w hw => EV.ld2 h2 ha hs' (ev_top _ _ _) (hcell w (hF w hw)).1 (hcell w (hF w hw)).2) (hk _ _ _ hsl))
end
end Go.Proofs.Ytdiljpnfochndaa
/- The rules about trees once more, with standing arguments. -/
namespace Go.Proofs.Ytdiljpnfochndaa
open Go Go.RowKit Go.Proofs.Ytdiljpnfochndaa.VW
open Go.Proofs.Ytdiljpnfochndaa.HP (Nd kid wor leafB)
section
variable {P : Program} [hT : Tab P] {n : Nat} {ds : List Deferred} {Φ : Post} {k : List It} {ρ : E} {w : World} {all : Array Oper} {l : List Oper} {md : Option (List Oper)} {s : Nat} {F : World → Prop} {π : List (Nat × Nat)} {L : List Bool}
theorem z_k {o1 o2 o3 : Oper} {d1 d2 d3 t s t' : Nat} {x y : Operand} {v : Value} {i : Int} {tr : List Nd} {w0 : World} {c1 c2 c3 : Bool} (h1 : o1.op = .indexAddr t x y := by exact rfl) (hd1 : o1.dst = some d1 := by exact rfl) (hg1 : gdB all ρ o1.guard = some c1 := by exact rfl) (hc1 : c1 = true := by exact rfl) (h2 : o2.op = .fieldAddr s (.tmp d1) 0 := by exact rfl) (hd2 : o2.dst = some d2 := by exact rfl) (hg2 : ∀ p, gdB all ((d1, .pointer p) :: ρ) o2.guard = some c2 := by exact fun _ => rfl) (hc2 : c2 = true := by exact rfl) (h3 : o3.op = .load t' (.tmp d2) := by exact rfl) (hd3 : o3.dst = some d3 := by exact rfl) (hg3 : ∀ p q, gdB all ((d2, .pointer q) :: (d1, .pointer p) :: ρ) o3.guard = some c3 := by exact fun _ _ => rfl) (hc3 : c3 = true := by exact rfl) (ht : tyD P t = some (.slice s) := by exact rfl) (hs : tyS P s = some 2 := by exact rfl) (hf : fieldOff P s 0 = some (0, 1) := by exact rfl) (ha : tyAgg P t' = some false := by exact rfl) (hx : ev ρ x = some v := by exact rfl) (hy : ev ρ y = some (.int .i64 i) := by exact rfl) (htr : TreeM w0 v tr := by assumption) (hbel : Below w0.heap.size w0 w := by first | assumption | exact Below.refl _ _) (h0 : 0 ≤ i := by omega) (hi : i < tr.length := by omega) (kk : ∀ A c p q, SlI w0 (.slice A (kid tr i).length c) (kid tr i) → Ops md P n ds all k Φ l ((d3, .slice A (kid tr i).length c) :: (d2, q) :: (d1, p) :: ρ) w) : Ops md P n ds all k Φ (o1 :: o2 :: o3 :: l) ρ w := Ops.rdKB h1 hd1 hg1 hc1 h2 hd2 hg2 hc2 h3 hd3 hg3 hc3 ht hs hf ha hx hy htr hbel h0 hi kk
theorem z_w {o1 o2 o3 : Oper} {d1 d2 d3 t s t' : Nat} {x y : Operand} {v : Value} {i : Int} {tr : List Nd} {w0 : World} {c1 c2 c3 : Bool} (h1 : o1.op = .indexAddr t x y := by exact rfl) (hd1 : o1.dst = some d1 := by exact rfl) (hg1 : gdB all ρ o1.guard = some c1 := by exact rfl) (hc1 : c1 = true := by exact rfl) (h2 : o2.op = .fieldAddr s (.tmp d1) 1 := by exact rfl) (hd2 : o2.dst = some d2 := by exact rfl) (hg2 : ∀ p, gdB all ((d1, .pointer p) :: ρ) o2.guard = some c2 := by exact fun _ => rfl) (hc2 : c2 = true := by exact rfl) (h3 : o3.op = .load t' (.tmp d2) := by exact rfl) (hd3 : o3.dst = some d3 := by exact rfl) (hg3 : ∀ p q, gdB all ((d2, .pointer q) :: (d1, .pointer p) :: ρ) o3.guard = some c3 := by exact fun _ _ => rfl) (hc3 : c3 = true := by exact rfl) (ht : tyD P t = some (.slice s) := by exact rfl) (hs : tyS P s = some 2 := by exact rfl) (hf : fieldOff P s 1 = some (1, 1) := by exact rfl) (ha : tyAgg P t' = some false := by exact rfl) (hx : ev ρ x = some v := by exact rfl) (hy : ev ρ y = some (.int .i64 i) := by exact rfl) (htr : TreeM w0 v tr := by assumption) (hbel : Below w0.heap.size w0 w := by first | assumption | exact Below.refl _ _) (h0 : 0 ≤ i := by omega) (hi : i < tr.length := by omega) (kk : ∀ p q, Ops md P n ds all k Φ l ((d3, .int .i64 (wor tr i)) :: (d2, q) :: (d1, p) :: ρ) w) : Ops md P n ds all k Φ (o1 :: o2 :: o3 :: l) ρ w := Ops.rdWB h1 hd1 hg1 hc1 h2 hd2 hg2 hc2 h3 hd3 hg3 hc3 ht hs hf ha hx hy htr hbel h0 hi kk
theorem z_s {o1 o2 : Oper} {d1 d2 t s t' : Nat} {x y : Operand} {v : Value} {i : Int} {tr : List Nd} {w0 : World} {c1 c2 : Bool} (h1 : o1.op = .indexAddr t x y := by exact rfl) (hd1 : o1.dst = some d1 := by exact rfl) (hg1 : gdB all ρ o1.guard = some c1 := by exact rfl) (hc1 : c1 = true := by exact rfl) (h2 : o2.op = .load t' (.tmp d1) := by exact rfl) (hd2 : o2.dst = some d2 := by exact rfl) (hg2 : ∀ p, gdB all ((d1, .pointer p) :: ρ) o2.guard = some c2 := by exact fun _ => rfl) (hc2 : c2 = true := by exact rfl) (ht : tyD P t = some (.slice s) := by exact rfl) (hs : tyS P s = some 2 := by exact rfl) (hs' : tyS P t' = some 2 := by exact rfl) (ha : tyAgg P t' = some true := by exact rfl) (hx : ev ρ x = some v := by exact rfl) (hy : ev ρ y = some (.int .i64 i) := by exact rfl) (htr : TreeM w0 v tr := by assumption) (hbel : Below w0.heap.size w0 w := by first | assumption | exact Below.refl _ _) (h0 : 0 ≤ i := by omega) (hi : i < tr.length := by omega) (kk : ∀ A c p, SlI w0 (.slice A (kid tr i).length c) (kid tr i) → Ops md P n ds all k Φ l ((d2, .agg #[.slice A (kid tr i).length c, .int .i64 (wor tr i)]) :: (d1, p) :: ρ) w) : Ops md P n ds all k Φ (o1 :: o2 :: l) ρ w := Ops.rdNB h1 hd1 hg1 hc1 h2 hd2 hg2 hc2 ht hs hs' ha hx hy htr hbel h0 hi kk
theorem x_k {i1 i2 i3 d1 d2 d3 t s' t' : Nat} {o1 o2 o3 : Oper} {x y : Operand} {v : Value} {i : Int} {tr : List Nd} {w0 : World} {c1 c2 c3 : Bool} (e1 : all[i1]? = some o1 := by exact rfl) (h1 : o1.op = .indexAddr t x y := by exact rfl) (hd1 : o1.dst = some d1 := by exact rfl) (hg1 : gdB all ρ o1.guard = some c1 := by exact rfl) (hc1 : c1 = true := by exact rfl) (e2 : all[i2]? = some o2 := by exact rfl) (h2 : o2.op = .fieldAddr s' (.tmp d1) 0 := by exact rfl) (hd2 : o2.dst = some d2 := by exact rfl) (hg2 : ∀ p, gdB all ((d1, .pointer p) :: ρ) o2.guard = some c2 := by exact fun _ => rfl) (hc2 : c2 = true := by exact rfl) (e3 : all[i3]? = some o3 := by exact rfl) (h3 : o3.op = .load t' (.tmp d2) := by exact rfl) (hd3 : o3.dst = some d3 := by exact rfl) (hg3 : ∀ p q, gdB all ((d2, .pointer q) :: (d1, .pointer p) :: ρ) o3.guard = some c3 := by exact fun _ _ => rfl) (hc3 : c3 = true := by exact rfl) (ht : tyD P t = some (.slice s') := by exact rfl) (hs : tyS P s' = some 2 := by exact rfl) (hf : fieldOff P s' 0 = some (0, 1) := by exact rfl) (ha : tyAgg P t' = some false := by exact rfl) (hx : ev ρ x = some v := by exact rfl) (hy : ev ρ y = some (.int .i64 i) := by exact rfl) (htr : TreeM w0 v tr := by assumption) (hF : ∀ w, F w → Below w0.heap.size w0 w := by first | exact fun _ h => h | (intro _ h; exact Below.via (by assumption) h)) (h0 : 0 ≤ i := by omega) (hi : i < tr.length := by omega) (kk : ∀ A c p q, SlI w0 (.slice A (kid tr i).length c) (kid tr i) → OrdA P n ds all k Φ s F π (((L.set i1 true).set i2 true).set i3 true) ((d3, .slice A (kid tr i).length c) :: (d2, q) :: (d1, p) :: ρ)) : OrdA P n ds all k Φ s F ((i1, 1) :: (i2, 1) :: (i3, 2) :: π) L ρ := OrdA.rdK e1 h1 hd1 hg1 hc1 e2 h2 hd2 hg2 hc2 e3 h3 hd3 hg3 hc3 ht hs hf ha hx hy htr hF h0 hi kk
theorem x_w {i1 i2 i3 d1 d2 d3 t s' t' : Nat} {o1 o2 o3 : Oper} {x y : Operand} {v : Value} {i : Int} {tr : List Nd} {w0 : World} {c1 c2 c3 : Bool} (e1 : all[i1]? = some o1 := by exact rfl) (h1 : o1.op = .indexAddr t x y := by exact rfl) (hd1 : o1.dst = some d1 := by exact rfl) (hg1 : gdB all ρ o1.guard = some c1 := by exact rfl) (hc1 : c1 = true := by exact rfl) (e2 : all[i2]? = some o2 := by exact rfl) (h2 : o2.op = .fieldAddr s' (.tmp d1) 1 := by exact rfl) (hd2 : o2.dst = some d2 := by exact rfl) (hg2 : ∀ p, gdB all ((d1, .pointer p) :: ρ) o2.guard = some c2 := by exact fun _ => rfl) (hc2 : c2 = true := by exact rfl) (e3 : all[i3]? = some o3 := by exact rfl) (h3 : o3.op = .load t' (.tmp d2) := by exact rfl) (hd3 : o3.dst = some d3 := by exact rfl) (hg3 : ∀ p q, gdB all ((d2, .pointer q) :: (d1, .pointer p) :: ρ) o3.guard = some c3 := by exact fun _ _ => rfl) (hc3 : c3 = true := by exact rfl) (ht : tyD P t = some (.slice s') := by exact rfl) (hs : tyS P s' = some 2 := by exact rfl) (hf : fieldOff P s' 1 = some (1, 1) := by exact rfl) (ha : tyAgg P t' = some false := by exact rfl) (hx : ev ρ x = some v := by exact rfl) (hy : ev ρ y = some (.int .i64 i) := by exact rfl) (htr : TreeM w0 v tr := by assumption) (hF : ∀ w, F w → Below w0.heap.size w0 w := by first | exact fun _ h => h | (intro _ h; exact Below.via (by assumption) h)) (h0 : 0 ≤ i := by omega) (hi : i < tr.length := by omega) (kk : ∀ p q, OrdA P n ds all k Φ s F π (((L.set i1 true).set i2 true).set i3 true) ((d3, .int .i64 (wor tr i)) :: (d2, q) :: (d1, p) :: ρ)) : OrdA P n ds all k Φ s F ((i1, 1) :: (i2, 1) :: (i3, 2) :: π) L ρ := OrdA.rdW e1 h1 hd1 hg1 hc1 e2 h2 hd2 hg2 hc2 e3 h3 hd3 hg3 hc3 ht hs hf ha hx hy htr hF h0 hi kk
theorem x_s {i1 i2 d1 d2 t s' t' : Nat} {o1 o2 : Oper} {x y : Operand} {v : Value} {i : Int} {tr : List Nd} {w0 : World} {c1 c2 : Bool} (e1 : all[i1]? = some o1 := by exact rfl) (h1 : o1.op = .indexAddr t x y := by exact rfl) (hd1 : o1.dst = some d1 := by exact rfl) (hg1 : gdB all ρ o1.guard = some c1 := by exact rfl) (hc1 : c1 = true := by exact rfl) (e2 : all[i2]? = some o2 := by exact rfl) (h2 : o2.op = .load t' (.tmp d1) := by exact rfl) (hd2 : o2.dst = some d2 := by exact rfl) (hg2 : ∀ p, gdB all ((d1, .pointer p) :: ρ) o2.guard = some c2 := by exact fun _ => rfl) (hc2 : c2 = true := by exact rfl) (ht : tyD P t = some (.slice s') := by exact rfl) (hs : tyS P s' = some 2 := by exact rfl) (hs' : tyS P t' = some 2 := by exact rfl) (ha : tyAgg P t' = some true := by exact rfl) (hx : ev ρ x = some v := by exact rfl) (hy : ev ρ y = some (.int .i64 i) := by exact rfl) (htr : TreeM w0 v tr := by assumption) (hF : ∀ w, F w → Below w0.heap.size w0 w := by first | exact fun _ h => h | (intro _ h; exact Below.via (by assumption) h)) (h0 : 0 ≤ i := by omega) (hi : i < tr.length := by omega) (kk : ∀ A c p, SlI w0 (.slice A (kid tr i).length c) (kid tr i) → OrdA P n ds all k Φ s F π ((L.set i1 true).set i2 true) ((d2, .agg #[.slice A (kid tr i).length c, .int .i64 (wor tr i)]) :: (d1, p) :: ρ)) : OrdA P n ds all k Φ s F ((i1, 1) :: (i2, 2) :: π) L ρ := OrdA.rdN e1 h1 hd1 hg1 hc1 e2 h2 hd2 hg2 hc2 ht hs hs' ha hx hy htr hF h0 hi kk
theorem y_k {i1 i2 i3 d1 d2 d3 t s' t' : Nat} {o1 o2 o3 : Oper} {x y : Operand} {v : Value} {i : Int} {tr : List Nd} {w0 : World} {c1 c2 c3 : Bool} (e1 : all[i1]? = some o1 := by exact rfl) (h1 : o1.op = .indexAddr t x y := by exact rfl) (hd1 : o1.dst = some d1 := by exact rfl) (hg1 : gdB all ρ o1.guard = some c1 := by exact rfl) (hc1 : c1 = true := by exact rfl) (e2 : all[i2]? = some o2 := by exact rfl) (h2 : o2.op = .fieldAddr s' (.tmp d1) 0 := by exact rfl) (hd2 : o2.dst = some d2 := by exact rfl) (hg2 : ∀ p, gdB all ((d1, .pointer p) :: ρ) o2.guard = some c2 := by exact fun _ => rfl) (hc2 : c2 = true := by exact rfl) (e3 : all[i3]? = some o3 := by exact rfl) (h3 : o3.op = .load t' (.tmp d2) := by exact rfl) (hd3 : o3.dst = some d3 := by exact rfl) (hg3 : ∀ p q, gdB all ((d2, .pointer q) :: (d1, .pointer p) :: ρ) o3.guard = some c3 := by exact fun _ _ => rfl) (hc3 : c3 = true := by exact rfl) (ht : tyD P t = some (.slice s') := by exact rfl) (hs : tyS P s' = some 2 := by exact rfl) (hf : fieldOff P s' 0 = some (0, 1) := by exact rfl) (ha : tyAgg P t' = some false := by exact rfl) (hx : ev ρ x = some v := by exact rfl) (hy : ev ρ y = some (.int .i64 i) := by exact rfl) (htr : TreeM w0 v tr := by assumption) (hF : ∀ w, F w → Below w0.heap.size w0 w := by first | exact fun _ h => h | (intro _ h; exact Below.via (by assumption) h)) (h0 : 0 ≤ i := by omega) (hi : i < tr.length := by omega) (hΦ : ∀ c ρ w, ¬ Φ (.panic c) ρ w := by exact fun _ _ _ h => h) (kk : ∀ A c p q, SlI w0 (.slice A (kid tr i).length c) (kid tr i) → VW.Ord P n ds all k Φ s F π (((L.set i1 true).set i2 true).set i3 true) ((d3, .slice A (kid tr i).length c) :: (d2, q) :: (d1, p) :: ρ) w) : VW.Ord P n ds all k Φ s F ((i1, 1) :: (i2, 1) :: (i3, 2) :: π) L ρ w := VW.Ord.rdK e1 h1 hd1 hg1 hc1 e2 h2 hd2 hg2 hc2 e3 h3 hd3 hg3 hc3 ht hs hf ha hx hy htr hF h0 hi hΦ kk
theorem y_w {i1 i2 i3 d1 d2 d3 t s' t' : Nat} {o1 o2 o3 : Oper} {x y : Operand} {v : Value} {i : Int} {tr : List Nd} {w0 : World} {c1 c2 c3 : Bool} (e1 : all[i1]? = some o1 := by exact rfl) (h1 : o1.op = .indexAddr t x y := by exact rfl) (hd1 : o1.dst = some d1 := by exact rfl) (hg1 : gdB all ρ o1.guard = some c1 := by exact rfl) (hc1 : c1 = true := by exact rfl) (e2 : all[i2]? = some o2 := by exact rfl) (h2 : o2.op = .fieldAddr s' (.tmp d1) 1 := by exact rfl) (hd2 : o2.dst = some d2 := by exact rfl) (hg2 : ∀ p, gdB all ((d1, .pointer p) :: ρ) o2.guard = some c2 := by exact fun _ => rfl) (hc2 : c2 = true := by exact rfl) (e3 : all[i3]? = some o3 := by exact rfl) (h3 : o3.op = .load t' (.tmp d2) := by exact rfl) (hd3 : o3.dst = some d3 := by exact rfl) (hg3 : ∀ p q, gdB all ((d2, .pointer q) :: (d1, .pointer p) :: ρ) o3.guard = some c3 := by exact fun _ _ => rfl) (hc3 : c3 = true := by exact rfl) (ht : tyD P t = some (.slice s') := by exact rfl) (hs : tyS P s' = some 2 := by exact rfl) (hf : fieldOff P s' 1 = some (1, 1) := by exact rfl) (ha : tyAgg P t' = some false := by exact rfl) (hx : ev ρ x = some v := by exact rfl) (hy : ev ρ y = some (.int .i64 i) := by exact rfl) (htr : TreeM w0 v tr := by assumption) (hF : ∀ w, F w → Below w0.heap.size w0 w := by first | exact fun _ h => h | (intro _ h; exact Below.via (by assumption) h)) (h0 : 0 ≤ i := by omega) (hi : i < tr.length := by omega) (hΦ : ∀ c ρ w, ¬ Φ (.panic c) ρ w := by exact fun _ _ _ h => h) (kk : ∀ p q, VW.Ord P n ds all k Φ s F π (((L.set i1 true).set i2 true).set i3 true) ((d3, .int .i64 (wor tr i)) :: (d2, q) :: (d1, p) :: ρ) w) : VW.Ord P n ds all k Φ s F ((i1, 1) :: (i2, 1) :: (i3, 2) :: π) L ρ w := VW.Ord.rdW e1 h1 hd1 hg1 hc1 e2 h2 hd2 hg2 hc2 e3 h3 hd3 hg3 hc3 ht hs hf ha hx hy htr hF h0 hi hΦ kk
theorem y_s {i1 i2 d1 d2 t s' t' : Nat} {o1 o2 : Oper} {x y : Operand} {v : Value} {i : Int} {tr : List Nd} {w0 : World} {c1 c2 : Bool} (e1 : all[i1]? = some o1 := by exact rfl) (h1 : o1.op = .indexAddr t x y := by exact rfl) (hd1 : o1.dst = some d1 := by exact rfl) (hg1 : gdB all ρ o1.guard = some c1 := by exact rfl) (hc1 : c1 = true := by exact rfl) (e2 : all[i2]? = some o2 := by exact rfl) (h2 : o2.op = .load t' (.tmp d1) := by exact rfl) (hd2 : o2.dst = some d2 := by exact rfl) (hg2 : ∀ p, gdB all ((d1, .pointer p) :: ρ) o2.guard = some c2 := by exact fun _ => rfl) (hc2 : c2 = true := by exact rfl) (ht : tyD P t = some (.slice s') := by exact rfl) (hs : tyS P s' = some 2 := by exact rfl) (hs' : tyS P t' = some 2 := by exact rfl) (ha : tyAgg P t' = some true := by exact rfl) (hx : ev ρ x = some v := by exact rfl) (hy : ev ρ y = some (.int .i64 i) := by exact rfl) (htr : TreeM w0 v tr := by assumption) (hF : ∀ w, F w → Below w0.heap.size w0 w := by first | exact fun _ h => h | (intro _ h; exact Below.via (by assumption) h)) (h0 : 0 ≤ i := by omega) (hi : i < tr.length := by omega) (hΦ : ∀ c ρ w, ¬ Φ (.panic c) ρ w := by exact fun _ _ _ h => h) (kk : ∀ A c p, SlI w0 (.slice A (kid tr i).length c) (kid tr i) → VW.Ord P n ds all k Φ s F π ((L.set i1 true).set i2 true) ((d2, .agg #[.slice A (kid tr i).length c, .int .i64 (wor tr i)]) :: (d1, p) :: ρ) w) : VW.Ord P n ds all k Φ s F ((i1, 1) :: (i2, 2) :: π) L ρ w := VW.Ord.rdN e1 h1 hd1 hg1 hc1 e2 h2 hd2 hg2 hc2 ht hs hs' ha hx hy htr hF h0 hi hΦ kk
end
end Go.Proofs.Ytdiljpnfochndaa
namespace Go.Proofs.Ytdiljpnfochndaa
open Go Go.RowKit Go.Proofs.Ytdiljpnfochndaa.VW
open Go.Proofs.Ytdiljpnfochndaa.HP (Nd kid wor leafB rd evB gameOf gameOf_TF ValP far TF Dn k_)
attribute [local irreducible] W Ops OrdA VW.Ord
theorem leaf_c {w : World} {v : Value} {xs : List Int} {z : Value} (hv : SlI w v xs) (hz : z.oneCell' = true) : Calls Try.prog 64 #[.agg #[v, z]] w (Ret fun r w' => r = .bool ((xs.length : Int) == 0) ∧ Below w.heap.size w w') := by
  obtain ⟨A, c, rfl⟩ := Sl.sl hv
  refine calls_W (vs := [_]) Try.func64 rfl (by kernel_rfl) rfl ?_
  (repeat (first | with_reducible refine W.seq ?_ | with_reducible refine Ops.nil ?_ | with_reducible refine W.region ?_ | refine z_p (kk := ?_) | refine z_a (kk := ?_) | refine z_y (kk := ?_) | refine z_n (kk := ?_) | refine z_u (kk := ?_) | with_reducible refine W.skip ?_ | with_reducible refine W.endb ?_ | with_reducible refine W.block ?_ | refine W.exit rfl ?_ | refine z_l (kk := ?_) | refine z_f (kk := ?_) | refine z_M (kk := ?_) | refine z_m (kk := ?_) | refine z_e (kk := ?_) | refine z_E (kk := ?_) | refine z_d (kk := ?_)))
  refine Ops.box rfl rfl rfl rfl (fun w1 b hM => ?_)
  have hB : Blk w1 b #[.slice A xs.length c, z] 47 := hM.at_
  (repeat (first | with_reducible refine W.seq ?_ | with_reducible refine Ops.nil ?_ | with_reducible refine W.region ?_ | refine z_p (kk := ?_) | refine z_a (kk := ?_) | refine z_y (kk := ?_) | refine z_n (kk := ?_) | refine z_u (kk := ?_) | with_reducible refine W.skip ?_ | with_reducible refine W.endb ?_ | with_reducible refine W.block ?_ | refine W.exit rfl ?_ | refine z_l (kk := ?_) | refine z_f (kk := ?_) | refine z_M (kk := ?_) | refine z_m (kk := ?_) | refine z_e (kk := ?_) | refine z_E (kk := ?_) | refine z_d (kk := ?_)))
  exact W.fret rfl ⟨rfl, hM.kp.below (Nat.le_refl _) (fun _ _ e => e)⟩
set_option maxHeartbeats 2000000 in
theorem listed_c {w : World} {v sv : Value} {l : List Nd} {xs : List Int} (hTr : TreeM w v l) (hn : l.length ≤ 60) (hs : SlI w sv xs) :
    Calls Try.prog 24 #[v, sv] w (Ret fun r w' => r = .bool (decide (Listed l xs)) ∧ Below w.heap.size w w') := by
  obtain ⟨At, ct, rfl⟩ := hTr.sl
  have hxl := Sl.len hs
  obtain ⟨As, cs, rfl⟩ := Sl.sl hs
  refine calls_W (vs := [_, _]) Try.func24 rfl (by kernel_rfl) rfl ?_
  (repeat (first | with_reducible refine W.seq ?_ | with_reducible refine Ops.nil ?_ | with_reducible refine W.region ?_ | refine z_p (kk := ?_) | refine z_a (kk := ?_) | refine z_y (kk := ?_) | refine z_n (kk := ?_) | refine z_u (kk := ?_) | with_reducible refine W.skip ?_ | with_reducible refine W.endb ?_ | with_reducible refine W.block ?_ | refine W.exit rfl ?_ | refine z_l (kk := ?_) | refine z_f (kk := ?_) | refine z_M (kk := ?_) | refine z_m (kk := ?_) | refine z_e (kk := ?_) | refine z_E (kk := ?_) | refine z_d (kk := ?_)))
  refine W.loop (fun m ρ w3 => ∃ j : Nat, m = xs.length - j ∧ j ≤ xs.length ∧ ρ = [(0, .slice At l.length ct), (1, .slice As xs.length cs), (5, .int .i64 j)] ∧ Below w.heap.size w w3 ∧ ∀ k, k < j → okAt l xs k)
    ⟨_, _, ⟨0, rfl, Nat.zero_le _, rfl, Below.refl _ _, fun k hk => by omega⟩, (by repeat (first | exact trivial | refine And.intro rfl ?_))⟩ ?_
  rintro m ρ w3 ⟨j, rfl, hj, rfl, hb3, hok⟩
  (repeat (first | with_reducible refine W.seq ?_ | with_reducible refine Ops.nil ?_ | with_reducible refine W.region ?_ | refine z_p (kk := ?_) | refine z_a (kk := ?_) | refine z_y (kk := ?_) | refine z_n (kk := ?_) | refine z_u (kk := ?_) | with_reducible refine W.skip ?_ | with_reducible refine W.endb ?_ | with_reducible refine W.block ?_ | refine W.exit rfl ?_ | refine z_l (kk := ?_) | refine z_f (kk := ?_) | refine z_M (kk := ?_) | refine z_m (kk := ?_) | refine z_e (kk := ?_) | refine z_E (kk := ?_) | refine z_d (kk := ?_)))
  (first | refine W.condD rfl (fun hc => ?_) (fun hc => ?_) | refine W.condE rfl (fun hc => ?_) (fun hc => ?_) | refine W.condN rfl (fun hc => ?_) (fun hc => ?_) | refine W.cond rfl (fun hc => ?_) (fun hc => ?_))
  · have hlt : j < xs.length := by omega
    (repeat (first | with_reducible refine W.seq ?_ | with_reducible refine Ops.nil ?_ | with_reducible refine W.region ?_ | refine z_p (kk := ?_) | refine z_a (kk := ?_) | refine z_y (kk := ?_) | refine z_n (kk := ?_) | refine z_u (kk := ?_) | with_reducible refine W.skip ?_ | with_reducible refine W.endb ?_ | with_reducible refine W.block ?_ | refine W.exit rfl ?_ | refine z_l (kk := ?_) | refine z_f (kk := ?_) | refine z_M (kk := ?_) | refine z_m (kk := ?_) | refine z_e (kk := ?_) | refine z_E (kk := ?_) | refine z_d (kk := ?_)))
    by_cases hok1 : okAt l xs j
    · have hok1' := hok1
      obtain ⟨q1, q2, q3, q4⟩ := hok1'
      have q3' : (kid l (xs.getD j 0)).length = 0 := by simpa [leafB] using q3
      have q5 : 0 < j → xs.getD ((j : Int) - 1).toNat 0 < xs.getD j 0 := fun h => by have := q4 h; rwa [show ((j : Int) - 1).toNat = j - 1 by omega]
      refine W.ordA 99 [(0, 1), (1, 1), (2, 1), (3, 2), (4, 1), (5, 1), (6, 1), (7, 1), (8, 1), (9, 2), (10, 1), (11, 1), (12, 1), (13, 1), (14, 1), (15, 1), (16, 1), (17, 1), (18, 1), (19, 2), (20, 1), (21, 2), (22, 2), (23, 1), (24, 1), (25, 1), (26, 1), (27, 1), (28, 1), (29, 1), (30, 1), (31, 1), (32, 1), (33, 2), (34, 1), (35, 1), (36, 1), (37, 2), (38, 1), (39, 1), (40, 1)] rfl (by kernel_rfl) rfl (by kernel_rfl) (fun _ _ _ h => h) ?_
      by_cases hj0 : 0 < j
      · have := q5 hj0
        (repeat (first | refine x_p (kk := ?_) | refine x_n (kk := ?_) | refine x_a (kk := ?_) | refine x_l (kk := ?_) | refine x_M (kk := ?_) | refine x_m (kk := ?_) | refine x_e (kk := ?_) | refine x_E (kk := ?_) | refine x_T (kk := ?_) | refine x_F (kk := ?_) | refine x_I (kk := fun _ => ?_) | refine x_J (kk := fun _ => ?_) | refine x_K (kk := fun _ => ?_) | refine x_L (kk := fun _ => ?_) | refine x_k (kk := fun _ _ _ _ _ => ?_) | refine x_w (kk := fun _ _ => ?_) | refine x_s (kk := fun _ _ _ _ => ?_) | refine OrdA.call rfl rfl rfl rfl rfl rfl rfl (fun w' hw' => Calls.via hw' (leaf_c (Sl.below (by assumption) (Below.via (by assumption) hw')) rfl)) ?_ | refine x_t (kk := ?_) | refine x_f (kk := ?_)))
        refine OrdA.nil (fun w6 hb6 => ?_)
        refine W.condF rfl (by first | rfl | assumption | (simp only [bnf] <;> omega) | (simp only [*, bnf]; done) | fail) ?_
        (repeat (first | with_reducible refine W.seq ?_ | with_reducible refine Ops.nil ?_ | with_reducible refine W.region ?_ | refine z_p (kk := ?_) | refine z_a (kk := ?_) | refine z_y (kk := ?_) | refine z_n (kk := ?_) | refine z_u (kk := ?_) | with_reducible refine W.skip ?_ | with_reducible refine W.endb ?_ | with_reducible refine W.block ?_ | refine W.exit rfl ?_ | refine z_l (kk := ?_) | refine z_f (kk := ?_) | refine z_M (kk := ?_) | refine z_m (kk := ?_) | refine z_e (kk := ?_) | refine z_E (kk := ?_) | refine z_d (kk := ?_)))
        exact W.endl ⟨_, _, ⟨⟨j + 1, rfl, by omega, rfl, Below.via hb3 hb6, fun k hk => by rcases Nat.lt_succ_iff_lt_or_eq.1 hk with h | rfl; exact hok k h; exact hok1⟩, by omega⟩, (by repeat (first | exact trivial | refine And.intro rfl ?_))⟩
      · (repeat (first | refine x_p (kk := ?_) | refine x_n (kk := ?_) | refine x_a (kk := ?_) | refine x_l (kk := ?_) | refine x_M (kk := ?_) | refine x_m (kk := ?_) | refine x_e (kk := ?_) | refine x_E (kk := ?_) | refine x_T (kk := ?_) | refine x_F (kk := ?_) | refine x_I (kk := fun _ => ?_) | refine x_J (kk := fun _ => ?_) | refine x_K (kk := fun _ => ?_) | refine x_L (kk := fun _ => ?_) | refine x_k (kk := fun _ _ _ _ _ => ?_) | refine x_w (kk := fun _ _ => ?_) | refine x_s (kk := fun _ _ _ _ => ?_) | refine OrdA.call rfl rfl rfl rfl rfl rfl rfl (fun w' hw' => Calls.via hw' (leaf_c (Sl.below (by assumption) (Below.via (by assumption) hw')) rfl)) ?_ | refine x_t (kk := ?_) | refine x_f (kk := ?_)))
        refine OrdA.nil (fun w6 hb6 => ?_)
        refine W.condF rfl (by first | rfl | assumption | (simp only [bnf] <;> omega) | (simp only [*, bnf]; done) | fail) ?_
        (repeat (first | with_reducible refine W.seq ?_ | with_reducible refine Ops.nil ?_ | with_reducible refine W.region ?_ | refine z_p (kk := ?_) | refine z_a (kk := ?_) | refine z_y (kk := ?_) | refine z_n (kk := ?_) | refine z_u (kk := ?_) | with_reducible refine W.skip ?_ | with_reducible refine W.endb ?_ | with_reducible refine W.block ?_ | refine W.exit rfl ?_ | refine z_l (kk := ?_) | refine z_f (kk := ?_) | refine z_M (kk := ?_) | refine z_m (kk := ?_) | refine z_e (kk := ?_) | refine z_E (kk := ?_) | refine z_d (kk := ?_)))
        exact W.endl ⟨_, _, ⟨⟨j + 1, rfl, by omega, rfl, Below.via hb3 hb6, fun k hk => by rcases Nat.lt_succ_iff_lt_or_eq.1 hk with h | rfl; exact hok k h; exact hok1⟩, by omega⟩, (by repeat (first | exact trivial | refine And.intro rfl ?_))⟩
    · have hno : decide (Listed l xs) = false := decide_eq_false fun h => hok1 (h j hlt)
      refine W.ordA 99 [(0, 1), (1, 1), (2, 1), (3, 2), (4, 1), (5, 1), (6, 1), (7, 1), (8, 1), (9, 2), (10, 1), (11, 1), (12, 1), (13, 1), (14, 1), (15, 1), (16, 1), (17, 1), (18, 1), (19, 2), (20, 1), (21, 2), (22, 2), (23, 1), (24, 1), (25, 1), (26, 1), (27, 1), (28, 1), (29, 1), (30, 1), (31, 1), (32, 1), (33, 2), (34, 1), (35, 1), (36, 1), (37, 2), (38, 1), (39, 1), (40, 1)] rfl (by kernel_rfl) rfl (by kernel_rfl) (fun _ _ _ h => h) ?_
      by_cases q1 : xs.getD j 0 < 0
      · (repeat (first | refine x_p (kk := ?_) | refine x_n (kk := ?_) | refine x_a (kk := ?_) | refine x_l (kk := ?_) | refine x_M (kk := ?_) | refine x_m (kk := ?_) | refine x_e (kk := ?_) | refine x_E (kk := ?_) | refine x_T (kk := ?_) | refine x_F (kk := ?_) | refine x_I (kk := fun _ => ?_) | refine x_J (kk := fun _ => ?_) | refine x_K (kk := fun _ => ?_) | refine x_L (kk := fun _ => ?_) | refine x_k (kk := fun _ _ _ _ _ => ?_) | refine x_w (kk := fun _ _ => ?_) | refine x_s (kk := fun _ _ _ _ => ?_) | refine x_t (kk := ?_) | refine x_f (kk := ?_)))
        refine OrdA.nil (fun w6 hb6 => ?_)
        refine W.condT rfl (by first | rfl | assumption | (simp only [bnf] <;> omega) | (simp only [*, bnf]; done) | fail) ?_
        (repeat (first | with_reducible refine W.seq ?_ | with_reducible refine Ops.nil ?_ | with_reducible refine W.region ?_ | refine z_p (kk := ?_) | refine z_a (kk := ?_) | refine z_y (kk := ?_) | refine z_n (kk := ?_) | refine z_u (kk := ?_) | with_reducible refine W.skip ?_ | with_reducible refine W.endb ?_ | with_reducible refine W.block ?_ | refine W.exit rfl ?_ | refine z_l (kk := ?_) | refine z_f (kk := ?_) | refine z_M (kk := ?_) | refine z_m (kk := ?_) | refine z_e (kk := ?_) | refine z_E (kk := ?_) | refine z_d (kk := ?_)))
        exact W.fret rfl ⟨by rw [hno]; rfl, Below.via hb3 hb6⟩
      · by_cases q2 : xs.getD j 0 ≤ l.length - 1
        · by_cases q3 : (kid l (xs.getD j 0)).length = 0
          · have q3' : leafB l (xs.getD j 0) = true := by simpa [leafB] using q3
            have q4 : 0 < j ∧ xs.getD j 0 ≤ xs.getD (j - 1) 0 := by
              refine Classical.byContradiction fun h => hok1 ⟨by omega, by omega, q3', fun h0 => by omega⟩
            have q5 : xs.getD j 0 ≤ xs.getD ((j : Int) - 1).toNat 0 := by rw [show ((j : Int) - 1).toNat = j - 1 by omega]; exact q4.2
            have q6 := q4.1
            (repeat (first | refine x_p (kk := ?_) | refine x_n (kk := ?_) | refine x_a (kk := ?_) | refine x_l (kk := ?_) | refine x_M (kk := ?_) | refine x_m (kk := ?_) | refine x_e (kk := ?_) | refine x_E (kk := ?_) | refine x_T (kk := ?_) | refine x_F (kk := ?_) | refine x_I (kk := fun _ => ?_) | refine x_J (kk := fun _ => ?_) | refine x_K (kk := fun _ => ?_) | refine x_L (kk := fun _ => ?_) | refine x_k (kk := fun _ _ _ _ _ => ?_) | refine x_w (kk := fun _ _ => ?_) | refine x_s (kk := fun _ _ _ _ => ?_) | refine OrdA.call rfl rfl rfl rfl rfl rfl rfl (fun w' hw' => Calls.via hw' (leaf_c (Sl.below (by assumption) (Below.via (by assumption) hw')) rfl)) ?_ | refine x_t (kk := ?_) | refine x_f (kk := ?_)))
            refine OrdA.nil (fun w6 hb6 => ?_)
            refine W.condT rfl (by first | rfl | assumption | (simp only [bnf] <;> omega) | (simp only [*, bnf]; done) | fail) ?_
            (repeat (first | with_reducible refine W.seq ?_ | with_reducible refine Ops.nil ?_ | with_reducible refine W.region ?_ | refine z_p (kk := ?_) | refine z_a (kk := ?_) | refine z_y (kk := ?_) | refine z_n (kk := ?_) | refine z_u (kk := ?_) | with_reducible refine W.skip ?_ | with_reducible refine W.endb ?_ | with_reducible refine W.block ?_ | refine W.exit rfl ?_ | refine z_l (kk := ?_) | refine z_f (kk := ?_) | refine z_M (kk := ?_) | refine z_m (kk := ?_) | refine z_e (kk := ?_) | refine z_E (kk := ?_) | refine z_d (kk := ?_)))
            exact W.fret rfl ⟨by rw [hno]; rfl, Below.via hb3 hb6⟩
          · (repeat (first | refine x_p (kk := ?_) | refine x_n (kk := ?_) | refine x_a (kk := ?_) | refine x_l (kk := ?_) | refine x_M (kk := ?_) | refine x_m (kk := ?_) | refine x_e (kk := ?_) | refine x_E (kk := ?_) | refine x_T (kk := ?_) | refine x_F (kk := ?_) | refine x_I (kk := fun _ => ?_) | refine x_J (kk := fun _ => ?_) | refine x_K (kk := fun _ => ?_) | refine x_L (kk := fun _ => ?_) | refine x_k (kk := fun _ _ _ _ _ => ?_) | refine x_w (kk := fun _ _ => ?_) | refine x_s (kk := fun _ _ _ _ => ?_) | refine OrdA.call rfl rfl rfl rfl rfl rfl rfl (fun w' hw' => Calls.via hw' (leaf_c (Sl.below (by assumption) (Below.via (by assumption) hw')) rfl)) ?_ | refine x_t (kk := ?_) | refine x_f (kk := ?_)))
            refine OrdA.nil (fun w6 hb6 => ?_)
            refine W.condT rfl (by first | rfl | assumption | (simp only [bnf] <;> omega) | (simp only [*, bnf]; done) | fail) ?_
            (repeat (first | with_reducible refine W.seq ?_ | with_reducible refine Ops.nil ?_ | with_reducible refine W.region ?_ | refine z_p (kk := ?_) | refine z_a (kk := ?_) | refine z_y (kk := ?_) | refine z_n (kk := ?_) | refine z_u (kk := ?_) | with_reducible refine W.skip ?_ | with_reducible refine W.endb ?_ | with_reducible refine W.block ?_ | refine W.exit rfl ?_ | refine z_l (kk := ?_) | refine z_f (kk := ?_) | refine z_M (kk := ?_) | refine z_m (kk := ?_) | refine z_e (kk := ?_) | refine z_E (kk := ?_) | refine z_d (kk := ?_)))
            exact W.fret rfl ⟨by rw [hno]; rfl, Below.via hb3 hb6⟩
        · (repeat (first | refine x_p (kk := ?_) | refine x_n (kk := ?_) | refine x_a (kk := ?_) | refine x_l (kk := ?_) | refine x_M (kk := ?_) | refine x_m (kk := ?_) | refine x_e (kk := ?_) | refine x_E (kk := ?_) | refine x_T (kk := ?_) | refine x_F (kk := ?_) | refine x_I (kk := fun _ => ?_) | refine x_J (kk := fun _ => ?_) | refine x_K (kk := fun _ => ?_) | refine x_L (kk := fun _ => ?_) | refine x_k (kk := fun _ _ _ _ _ => ?_) | refine x_w (kk := fun _ _ => ?_) | refine x_s (kk := fun _ _ _ _ => ?_) | refine x_t (kk := ?_) | refine x_f (kk := ?_)))
          refine OrdA.nil (fun w6 hb6 => ?_)
          refine W.condT rfl (by first | rfl | assumption | (simp only [bnf] <;> omega) | (simp only [*, bnf]; done) | fail) ?_
          (repeat (first | with_reducible refine W.seq ?_ | with_reducible refine Ops.nil ?_ | with_reducible refine W.region ?_ | refine z_p (kk := ?_) | refine z_a (kk := ?_) | refine z_y (kk := ?_) | refine z_n (kk := ?_) | refine z_u (kk := ?_) | with_reducible refine W.skip ?_ | with_reducible refine W.endb ?_ | with_reducible refine W.block ?_ | refine W.exit rfl ?_ | refine z_l (kk := ?_) | refine z_f (kk := ?_) | refine z_M (kk := ?_) | refine z_m (kk := ?_) | refine z_e (kk := ?_) | refine z_E (kk := ?_) | refine z_d (kk := ?_)))
          exact W.fret rfl ⟨by rw [hno]; rfl, Below.via hb3 hb6⟩
  · have hlt : j = xs.length := by omega
    subst hlt
    (repeat (first | with_reducible refine W.seq ?_ | with_reducible refine Ops.nil ?_ | with_reducible refine W.region ?_ | refine z_p (kk := ?_) | refine z_a (kk := ?_) | refine z_y (kk := ?_) | refine z_n (kk := ?_) | refine z_u (kk := ?_) | with_reducible refine W.skip ?_ | with_reducible refine W.endb ?_ | with_reducible refine W.block ?_ | refine W.exit rfl ?_ | refine z_l (kk := ?_) | refine z_f (kk := ?_) | refine z_M (kk := ?_) | refine z_m (kk := ?_) | refine z_e (kk := ?_) | refine z_E (kk := ?_) | refine z_d (kk := ?_)))
    exact W.fret rfl ⟨by rw [decide_eq_true (show Listed l xs from hok)]; rfl, hb3⟩
end Go.Proofs.Ytdiljpnfochndaa
namespace Go.Proofs.Ytdiljpnfochndaa
open Go Go.RowKit Go.Proofs.Ytdiljpnfochndaa.VW
open Go.Proofs.Ytdiljpnfochndaa.HP (Nd kid wor leafB rd evB gameOf gameOf_TF ValP NV far TF Dn k_ maxL minL maxL_take minL_take maxL_one minL_one val_set RNeedP RN rn_set farR sumC)
attribute [local irreducible] W Ops OrdA VW.Ord
theorem getD_map_rd {xs vs : List Int} {j : Nat} (h : j < xs.length) : (xs.map (rd vs)).getD j 0 = rd vs (xs.getD j 0) := by
  simp [List.getD_eq_getElem?_getD, h]
/-- The value of a node behind j children. -/
def acc (l : List Nd) (dep : List Int) (os : List Int) (a0 : Int) (p j : Nat) : Int := if j = 0 then a0 else if evB dep p then maxL (((kid l p).map (rd os)).take j) else minL (((kid l p).map (rd os)).take j)
theorem acc_succ {l : List Nd} {dep os : List Int} {a0 : Int} {p j : Nat} (h : j < (kid l p).length) : acc l dep os a0 p (j + 1) = if j = 0 then rd os ((kid l p).getD j 0) else if evB dep p then max (acc l dep os a0 p j) (rd os ((kid l p).getD j 0)) else min (acc l dep os a0 p j) (rd os ((kid l p).getD j 0)) := by
  have hm : j < ((kid l p).map (rd os)).length := by simpa using h
  rw [← getD_map_rd h]
  unfold acc
  by_cases hj : j = 0
  · subst hj
    simp only [Nat.zero_add, if_true]
    rw [if_neg (by omega)]
    split
    · exact maxL_one _ hm
    · exact minL_one _ hm
  · rw [if_neg (by omega), if_neg hj, if_neg hj]
    split
    · exact maxL_take _ _ (by omega) hm
    · exact minL_take _ _ (by omega) hm
theorem acc_end {l : List Nd} {dep os : List Int} {wf : Int → Int} {p : Nat} : acc l dep os (wf p) p (kid l p).length = NV l dep wf os p := by
  unfold acc NV leafB
  by_cases h : (kid l p).length = 0
  · have h2 : (kid l p).isEmpty = true := by rw [List.length_eq_zero_iff.1 h]; rfl
    rw [if_pos h, if_pos h2]
  · have h2 : (kid l p).isEmpty = false := by cases hk : kid l p with | nil => rw [hk] at h; simp at h | cons a r => rfl
    rw [if_neg h, h2, List.take_of_length_le (by simp)]
    rfl
theorem rd_set_ne {os : List Int} {p : Nat} {x : Int} {c : Int} (h : (p : Int) < c) : rd (os.set p x) c = rd os c := by
  simp only [rd]
  exact Go.Proofs.Ytdiljpnfochndaa.HP.getD_set_ne (by omega)
set_option maxHeartbeats 2000000 in
theorem backed_c {w : World} {v wv : Value} {l : List Nd} {dep ws : List Int} (hTr : TreeM w v l) (hT : TF l dep) (hW : SlI w wv ws) (hwl : ws.length = l.length) :
    Calls Try.prog 63 #[v, wv] w (Ret fun r w' => ∃ vs : List Int, OI 3 (Value.int .i64) w w' r vs ∧ ValP l dep (fun i => ws.getD i.toNat 0) vs) := by
  obtain ⟨At, ct, rfl⟩ := hTr.sl
  obtain ⟨Aw, cw, rfl⟩ := Sl.sl hW
  have hn := hT.n60
  have hn1 := hT.n1
  refine calls_W (vs := [_, _]) Try.func63 rfl (by kernel_rfl) rfl ?_
  (repeat (first | with_reducible refine W.seq ?_ | with_reducible refine Ops.nil ?_ | with_reducible refine W.region ?_ | refine z_p (kk := ?_) | refine z_a (kk := ?_) | refine z_y (kk := ?_) | refine z_n (kk := ?_) | refine z_u (kk := ?_) | with_reducible refine W.skip ?_ | with_reducible refine W.endb ?_ | with_reducible refine W.block ?_ | refine W.exit rfl ?_ | refine z_l (kk := ?_) | refine z_f (kk := ?_) | refine z_M (kk := ?_) | refine z_m (kk := ?_) | refine z_e (kk := ?_) | refine z_E (kk := ?_) | refine z_d (kk := ?_) | refine z_I (kk := fun _ => ?_) | refine z_J (kk := fun _ => ?_) | refine z_K (kk := fun _ => ?_) | refine z_L (kk := fun _ => ?_) | refine z_T (kk := ?_) | refine z_F (kk := ?_) | refine z_k (kk := fun _ _ _ _ _ => ?_) | refine z_w (kk := fun _ _ => ?_) | refine z_s (kk := fun _ _ _ _ => ?_) | refine z_g (kk := ?_) | refine z_h (kk := ?_)))
  refine Ops.call rfl rfl rfl rfl rfl (even_c hTr hT) (fun r w1 hR => ?_)
  obtain ⟨bs, hE, hbl, hbv⟩ := hR
  have hb1 := hE.bel
  have hE1 : SlB w1 r bs := hE.sl
  obtain ⟨Ae, ce, rfl⟩ := Sl.sl hE1
  have hTr1 := hTr.below hb1
  have hW1 := Sl.below hW hb1
  clear hTr hW
  (repeat (first | with_reducible refine W.seq ?_ | with_reducible refine Ops.nil ?_ | with_reducible refine W.region ?_ | refine z_p (kk := ?_) | refine z_a (kk := ?_) | refine z_y (kk := ?_) | refine z_n (kk := ?_) | refine z_u (kk := ?_) | with_reducible refine W.skip ?_ | with_reducible refine W.endb ?_ | with_reducible refine W.block ?_ | refine W.exit rfl ?_ | refine z_l (kk := ?_) | refine z_f (kk := ?_) | refine z_M (kk := ?_) | refine z_m (kk := ?_) | refine z_e (kk := ?_) | refine z_E (kk := ?_) | refine z_d (kk := ?_) | refine z_I (kk := fun _ => ?_) | refine z_J (kk := fun _ => ?_) | refine z_K (kk := fun _ => ?_) | refine z_L (kk := fun _ => ?_) | refine z_T (kk := ?_) | refine z_F (kk := ?_) | refine z_k (kk := fun _ _ _ _ _ => ?_) | refine z_w (kk := fun _ _ => ?_) | refine z_s (kk := fun _ _ _ _ => ?_) | refine z_g (kk := ?_) | refine z_h (kk := ?_)))
  refine Ops.mkO (w0 := w1) (Value.int .i64) 0 rfl rfl rfl rfl rfl rfl rfl rfl rfl (by omega) rfl (Below.refl _ _) (fun w2 dr hO2 k2 _ => ?_)
  have hlr : (List.replicate l.length (0 : Int)).length = l.length := by simp
  generalize List.replicate l.length (0 : Int) = os2 at *
  (repeat (first | with_reducible refine W.seq ?_ | with_reducible refine Ops.nil ?_ | with_reducible refine W.region ?_ | refine z_p (kk := ?_) | refine z_a (kk := ?_) | refine z_y (kk := ?_) | refine z_n (kk := ?_) | refine z_u (kk := ?_) | with_reducible refine W.skip ?_ | with_reducible refine W.endb ?_ | with_reducible refine W.block ?_ | refine W.exit rfl ?_ | refine z_l (kk := ?_) | refine z_f (kk := ?_) | refine z_M (kk := ?_) | refine z_m (kk := ?_) | refine z_e (kk := ?_) | refine z_E (kk := ?_) | refine z_d (kk := ?_) | refine z_I (kk := fun _ => ?_) | refine z_J (kk := fun _ => ?_) | refine z_K (kk := fun _ => ?_) | refine z_L (kk := fun _ => ?_) | refine z_T (kk := ?_) | refine z_F (kk := ?_) | refine z_k (kk := fun _ _ _ _ _ => ?_) | refine z_w (kk := fun _ _ => ?_) | refine z_s (kk := fun _ _ _ _ => ?_) | refine z_g (kk := ?_) | refine z_h (kk := ?_)))
  refine W.loop (fun m ρ w3 => ∃ (q : Nat) (os : List Int), m = q ∧ q ≤ l.length ∧ ρ = [(0, .slice At l.length ct), (1, .slice Aw ws.length cw), (5, .slice Ae bs.length ce), (6, .slice (some ⟨dr, 0, none⟩) l.length l.length), (7, .int .i64 ((q : Int) - 1))] ∧ OI 3 (Value.int .i64) w1 w3 (.slice (some ⟨dr, 0, none⟩) l.length l.length) os ∧ os.length = l.length ∧ ∀ j : Nat, q ≤ j → j < l.length → os.getD j 0 = NV l dep (fun i => ws.getD i.toNat 0) os j)
    ⟨_, _, ⟨l.length, _, rfl, Nat.le_refl _, rfl, hO2, hlr, fun j h1 h2 => by omega⟩, (by repeat (first | exact trivial | refine And.intro rfl ?_))⟩ ?_
  clear hO2 hlr
  rintro m ρ w3 ⟨q, os, hm, hq, rfl, hO, hol, hv⟩
  subst m
  (repeat (first | with_reducible refine W.seq ?_ | with_reducible refine Ops.nil ?_ | with_reducible refine W.region ?_ | refine z_p (kk := ?_) | refine z_a (kk := ?_) | refine z_y (kk := ?_) | refine z_n (kk := ?_) | refine z_u (kk := ?_) | with_reducible refine W.skip ?_ | with_reducible refine W.endb ?_ | with_reducible refine W.block ?_ | refine W.exit rfl ?_ | refine z_l (kk := ?_) | refine z_f (kk := ?_) | refine z_M (kk := ?_) | refine z_m (kk := ?_) | refine z_e (kk := ?_) | refine z_E (kk := ?_) | refine z_d (kk := ?_) | refine z_I (kk := fun _ => ?_) | refine z_J (kk := fun _ => ?_) | refine z_K (kk := fun _ => ?_) | refine z_L (kk := fun _ => ?_) | refine z_T (kk := ?_) | refine z_F (kk := ?_) | refine z_k (kk := fun _ _ _ _ _ => ?_) | refine z_w (kk := fun _ _ => ?_) | refine z_s (kk := fun _ _ _ _ => ?_) | refine z_g (kk := ?_) | refine z_h (kk := ?_)))
  (first | refine W.condD rfl (fun hc => ?_) (fun hc => ?_) | refine W.condE rfl (fun hc => ?_) (fun hc => ?_) | refine W.condN rfl (fun hc => ?_) (fun hc => ?_) | refine W.cond rfl (fun hc => ?_) (fun hc => ?_))
  · obtain ⟨p, rfl⟩ : ∃ p, q = p + 1 := ⟨q - 1, by omega⟩
    have hp : p < l.length := by omega
    have hb3 := hO.bel
    rw [show ((p + 1 : Nat) : Int) - 1 = p by omega]
    have hev := hbv p hp
    (repeat (first | with_reducible refine W.seq ?_ | with_reducible refine Ops.nil ?_ | with_reducible refine W.region ?_ | refine z_p (kk := ?_) | refine z_a (kk := ?_) | refine z_y (kk := ?_) | refine z_n (kk := ?_) | refine z_u (kk := ?_) | with_reducible refine W.skip ?_ | with_reducible refine W.endb ?_ | with_reducible refine W.block ?_ | refine W.exit rfl ?_ | refine z_l (kk := ?_) | refine z_f (kk := ?_) | refine z_M (kk := ?_) | refine z_m (kk := ?_) | refine z_e (kk := ?_) | refine z_E (kk := ?_) | refine z_d (kk := ?_) | refine z_I (kk := fun _ => ?_) | refine z_J (kk := fun _ => ?_) | refine z_K (kk := fun _ => ?_) | refine z_L (kk := fun _ => ?_) | refine z_T (kk := ?_) | refine z_F (kk := ?_) | refine z_k (kk := fun _ _ _ _ _ => ?_) | refine z_w (kk := fun _ _ => ?_) | refine z_s (kk := fun _ _ _ _ => ?_) | refine z_g (kk := ?_) | refine z_h (kk := ?_)))
    refine Ops.wrO rfl rfl rfl rfl rfl rfl rfl rfl rfl rfl rfl rfl (by simp) rfl hO (by omega) (fun w4 _ hO4 _ _ => ?_)
    (repeat (first | with_reducible refine W.seq ?_ | with_reducible refine Ops.nil ?_ | with_reducible refine W.region ?_ | refine z_p (kk := ?_) | refine z_a (kk := ?_) | refine z_y (kk := ?_) | refine z_n (kk := ?_) | refine z_u (kk := ?_) | with_reducible refine W.skip ?_ | with_reducible refine W.endb ?_ | with_reducible refine W.block ?_ | refine W.exit rfl ?_ | refine z_l (kk := ?_) | refine z_f (kk := ?_) | refine z_M (kk := ?_) | refine z_m (kk := ?_) | refine z_e (kk := ?_) | refine z_E (kk := ?_) | refine z_d (kk := ?_) | refine z_I (kk := fun _ => ?_) | refine z_J (kk := fun _ => ?_) | refine z_K (kk := fun _ => ?_) | refine z_L (kk := fun _ => ?_) | refine z_T (kk := ?_) | refine z_F (kk := ?_) | refine z_k (kk := fun _ _ _ _ _ => ?_) | refine z_w (kk := fun _ _ => ?_) | refine z_s (kk := fun _ _ _ _ => ?_) | refine z_g (kk := ?_) | refine z_h (kk := ?_)))
    refine W.loop (fun m ρ w5 => ∃ (j : Nat) (a : Int), m = (kid l p).length - j ∧ j ≤ (kid l p).length ∧ ρ = [(0, .slice At l.length ct), (1, .slice Aw ws.length cw), (5, .slice Ae bs.length ce), (6, .slice (some ⟨dr, 0, none⟩) l.length l.length), (7, .int .i64 p), (8, .int .i64 j)] ∧ OI 3 (Value.int .i64) w1 w5 (.slice (some ⟨dr, 0, none⟩) l.length l.length) (os.set p a) ∧ a = acc l dep os (ws.getD p 0) p j)
      ⟨_, _, ⟨0, _, rfl, Nat.zero_le _, rfl, hO4, rfl⟩, (by repeat (first | exact trivial | refine And.intro rfl ?_))⟩ ?_
    clear hO4
    rintro m ρ w5 ⟨j, a, rfl, hj, rfl, hO5, ha⟩
    have hb5 := hO5.bel
    have hkl := hT.klen p hp
    have hosl : (os.set p a).length = l.length := by simp [hol]
    have hosp : (os.set p a).getD p 0 = a := Go.Proofs.Ytdiljpnfochndaa.HP.getD_set_eq (by omega)
    (repeat (first | with_reducible refine W.seq ?_ | with_reducible refine Ops.nil ?_ | with_reducible refine W.region ?_ | refine z_p (kk := ?_) | refine z_a (kk := ?_) | refine z_y (kk := ?_) | refine z_n (kk := ?_) | refine z_u (kk := ?_) | with_reducible refine W.skip ?_ | with_reducible refine W.endb ?_ | with_reducible refine W.block ?_ | refine W.exit rfl ?_ | refine z_l (kk := ?_) | refine z_f (kk := ?_) | refine z_M (kk := ?_) | refine z_m (kk := ?_) | refine z_e (kk := ?_) | refine z_E (kk := ?_) | refine z_d (kk := ?_) | refine z_I (kk := fun _ => ?_) | refine z_J (kk := fun _ => ?_) | refine z_K (kk := fun _ => ?_) | refine z_L (kk := fun _ => ?_) | refine z_T (kk := ?_) | refine z_F (kk := ?_) | refine z_k (kk := fun _ _ _ _ _ => ?_) | refine z_w (kk := fun _ _ => ?_) | refine z_s (kk := fun _ _ _ _ => ?_) | refine z_g (kk := ?_) | refine z_h (kk := ?_)))
    (first | refine W.condD rfl (fun hc => ?_) (fun hc => ?_) | refine W.condE rfl (fun hc => ?_) (fun hc => ?_) | refine W.condN rfl (fun hc => ?_) (fun hc => ?_) | refine W.cond rfl (fun hc => ?_) (fun hc => ?_))
    · have hjl : j < (kid l p).length := by omega
      have hkin := hT.kin p j hp hjl
      simp only [k_] at hkin
      have hrd := rd_set_ne (os := os) (x := a) hkin.1
      have hacc := acc_succ (dep := dep) (os := os) (a0 := ws.getD p 0) hjl
      have hrd' : (os.set p a).getD ((kid l p).getD j 0).toNat 0 = rd os ((kid l p).getD j 0) := hrd
      by_cases hj0 : j = 0
      · have hx : (os.set p a).getD ((kid l p).getD j 0).toNat 0 = acc l dep os (ws.getD p 0) p (j + 1) := by rw [hacc, if_pos hj0]; exact hrd
        (repeat (first | with_reducible refine W.seq ?_ | with_reducible refine Ops.nil ?_ | with_reducible refine W.region ?_ | refine z_p (kk := ?_) | refine z_a (kk := ?_) | refine z_y (kk := ?_) | refine z_n (kk := ?_) | refine z_u (kk := ?_) | with_reducible refine W.skip ?_ | with_reducible refine W.endb ?_ | with_reducible refine W.block ?_ | refine W.exit rfl ?_ | refine z_l (kk := ?_) | refine z_f (kk := ?_) | refine z_M (kk := ?_) | refine z_m (kk := ?_) | refine z_e (kk := ?_) | refine z_E (kk := ?_) | refine z_d (kk := ?_) | refine z_I (kk := fun _ => ?_) | refine z_J (kk := fun _ => ?_) | refine z_K (kk := fun _ => ?_) | refine z_L (kk := fun _ => ?_) | refine z_T (kk := ?_) | refine z_F (kk := ?_) | refine z_k (kk := fun _ _ _ _ _ => ?_) | refine z_w (kk := fun _ _ => ?_) | refine z_s (kk := fun _ _ _ _ => ?_) | refine z_g (kk := ?_) | refine z_h (kk := ?_)))
        refine W.condT rfl (by first | rfl | assumption | (simp only [bnf] <;> omega) | (simp only [*, bnf]; done) | fail) ?_
        (repeat (first | with_reducible refine W.seq ?_ | with_reducible refine Ops.nil ?_ | with_reducible refine W.region ?_ | refine z_p (kk := ?_) | refine z_a (kk := ?_) | refine z_y (kk := ?_) | refine z_n (kk := ?_) | refine z_u (kk := ?_) | with_reducible refine W.skip ?_ | with_reducible refine W.endb ?_ | with_reducible refine W.block ?_ | refine W.exit rfl ?_ | refine z_l (kk := ?_) | refine z_f (kk := ?_) | refine z_M (kk := ?_) | refine z_m (kk := ?_) | refine z_e (kk := ?_) | refine z_E (kk := ?_) | refine z_d (kk := ?_) | refine z_I (kk := fun _ => ?_) | refine z_J (kk := fun _ => ?_) | refine z_K (kk := fun _ => ?_) | refine z_L (kk := fun _ => ?_) | refine z_T (kk := ?_) | refine z_F (kk := ?_) | refine z_k (kk := fun _ _ _ _ _ => ?_) | refine z_w (kk := fun _ _ => ?_) | refine z_s (kk := fun _ _ _ _ => ?_) | refine z_g (kk := ?_) | refine z_h (kk := ?_)))
        refine Ops.wrO rfl rfl rfl rfl rfl rfl rfl rfl rfl rfl rfl rfl (by simp) rfl hO5 (by omega) (fun w6 _ hO6 _ _ => ?_)
        rw [List.set_set] at hO6
        (repeat (first | with_reducible refine W.seq ?_ | with_reducible refine Ops.nil ?_ | with_reducible refine W.region ?_ | refine z_p (kk := ?_) | refine z_a (kk := ?_) | refine z_y (kk := ?_) | refine z_n (kk := ?_) | refine z_u (kk := ?_) | with_reducible refine W.skip ?_ | with_reducible refine W.endb ?_ | with_reducible refine W.block ?_ | refine W.exit rfl ?_ | refine z_l (kk := ?_) | refine z_f (kk := ?_) | refine z_M (kk := ?_) | refine z_m (kk := ?_) | refine z_e (kk := ?_) | refine z_E (kk := ?_) | refine z_d (kk := ?_) | refine z_I (kk := fun _ => ?_) | refine z_J (kk := fun _ => ?_) | refine z_K (kk := fun _ => ?_) | refine z_L (kk := fun _ => ?_) | refine z_T (kk := ?_) | refine z_F (kk := ?_) | refine z_k (kk := fun _ _ _ _ _ => ?_) | refine z_w (kk := fun _ _ => ?_) | refine z_s (kk := fun _ _ _ _ => ?_) | refine z_g (kk := ?_) | refine z_h (kk := ?_)))
        exact W.endl ⟨_, _, ⟨⟨j + 1, _, rfl, by omega, rfl, hO6, hx⟩, by omega⟩, (by repeat (first | exact trivial | refine And.intro rfl ?_))⟩
      · rw [if_neg hj0] at hacc
        cases hed : evB dep p with
        | true =>
          rw [hed] at hev hacc
          rw [if_pos rfl, ← ha] at hacc
          by_cases hgt : rd os ((kid l p).getD j 0) > a
          · have hx : (os.set p a).getD ((kid l p).getD j 0).toNat 0 = acc l dep os (ws.getD p 0) p (j + 1) := by rw [hacc, hrd']; omega
            (repeat (first | with_reducible refine W.seq ?_ | with_reducible refine Ops.nil ?_ | with_reducible refine W.region ?_ | refine z_p (kk := ?_) | refine z_a (kk := ?_) | refine z_y (kk := ?_) | refine z_n (kk := ?_) | refine z_u (kk := ?_) | with_reducible refine W.skip ?_ | with_reducible refine W.endb ?_ | with_reducible refine W.block ?_ | refine W.exit rfl ?_ | refine z_l (kk := ?_) | refine z_f (kk := ?_) | refine z_M (kk := ?_) | refine z_m (kk := ?_) | refine z_e (kk := ?_) | refine z_E (kk := ?_) | refine z_d (kk := ?_) | refine z_I (kk := fun _ => ?_) | refine z_J (kk := fun _ => ?_) | refine z_K (kk := fun _ => ?_) | refine z_L (kk := fun _ => ?_) | refine z_T (kk := ?_) | refine z_F (kk := ?_) | refine z_k (kk := fun _ _ _ _ _ => ?_) | refine z_w (kk := fun _ _ => ?_) | refine z_s (kk := fun _ _ _ _ => ?_) | refine z_g (kk := ?_) | refine z_h (kk := ?_)))
            refine W.condT rfl (by first | rfl | assumption | (simp only [bnf] <;> omega) | (simp only [*, bnf]; done) | fail) ?_
            (repeat (first | with_reducible refine W.seq ?_ | with_reducible refine Ops.nil ?_ | with_reducible refine W.region ?_ | refine z_p (kk := ?_) | refine z_a (kk := ?_) | refine z_y (kk := ?_) | refine z_n (kk := ?_) | refine z_u (kk := ?_) | with_reducible refine W.skip ?_ | with_reducible refine W.endb ?_ | with_reducible refine W.block ?_ | refine W.exit rfl ?_ | refine z_l (kk := ?_) | refine z_f (kk := ?_) | refine z_M (kk := ?_) | refine z_m (kk := ?_) | refine z_e (kk := ?_) | refine z_E (kk := ?_) | refine z_d (kk := ?_) | refine z_I (kk := fun _ => ?_) | refine z_J (kk := fun _ => ?_) | refine z_K (kk := fun _ => ?_) | refine z_L (kk := fun _ => ?_) | refine z_T (kk := ?_) | refine z_F (kk := ?_) | refine z_k (kk := fun _ _ _ _ _ => ?_) | refine z_w (kk := fun _ _ => ?_) | refine z_s (kk := fun _ _ _ _ => ?_) | refine z_g (kk := ?_) | refine z_h (kk := ?_)))
            refine Ops.wrO rfl rfl rfl rfl rfl rfl rfl rfl rfl rfl rfl rfl (by simp) rfl hO5 (by omega) (fun w6 _ hO6 _ _ => ?_)
            rw [List.set_set] at hO6
            (repeat (first | with_reducible refine W.seq ?_ | with_reducible refine Ops.nil ?_ | with_reducible refine W.region ?_ | refine z_p (kk := ?_) | refine z_a (kk := ?_) | refine z_y (kk := ?_) | refine z_n (kk := ?_) | refine z_u (kk := ?_) | with_reducible refine W.skip ?_ | with_reducible refine W.endb ?_ | with_reducible refine W.block ?_ | refine W.exit rfl ?_ | refine z_l (kk := ?_) | refine z_f (kk := ?_) | refine z_M (kk := ?_) | refine z_m (kk := ?_) | refine z_e (kk := ?_) | refine z_E (kk := ?_) | refine z_d (kk := ?_) | refine z_I (kk := fun _ => ?_) | refine z_J (kk := fun _ => ?_) | refine z_K (kk := fun _ => ?_) | refine z_L (kk := fun _ => ?_) | refine z_T (kk := ?_) | refine z_F (kk := ?_) | refine z_k (kk := fun _ _ _ _ _ => ?_) | refine z_w (kk := fun _ _ => ?_) | refine z_s (kk := fun _ _ _ _ => ?_) | refine z_g (kk := ?_) | refine z_h (kk := ?_)))
            exact W.endl ⟨_, _, ⟨⟨j + 1, _, rfl, by omega, rfl, hO6, hx⟩, by omega⟩, (by repeat (first | exact trivial | refine And.intro rfl ?_))⟩
          · have hx : a = acc l dep os (ws.getD p 0) p (j + 1) := by rw [hacc]; omega
            (repeat (first | with_reducible refine W.seq ?_ | with_reducible refine Ops.nil ?_ | with_reducible refine W.region ?_ | refine z_p (kk := ?_) | refine z_a (kk := ?_) | refine z_y (kk := ?_) | refine z_n (kk := ?_) | refine z_u (kk := ?_) | with_reducible refine W.skip ?_ | with_reducible refine W.endb ?_ | with_reducible refine W.block ?_ | refine W.exit rfl ?_ | refine z_l (kk := ?_) | refine z_f (kk := ?_) | refine z_M (kk := ?_) | refine z_m (kk := ?_) | refine z_e (kk := ?_) | refine z_E (kk := ?_) | refine z_d (kk := ?_) | refine z_I (kk := fun _ => ?_) | refine z_J (kk := fun _ => ?_) | refine z_K (kk := fun _ => ?_) | refine z_L (kk := fun _ => ?_) | refine z_T (kk := ?_) | refine z_F (kk := ?_) | refine z_k (kk := fun _ _ _ _ _ => ?_) | refine z_w (kk := fun _ _ => ?_) | refine z_s (kk := fun _ _ _ _ => ?_) | refine z_g (kk := ?_) | refine z_h (kk := ?_)))
            refine W.condF rfl (by first | rfl | assumption | (simp only [bnf] <;> omega) | (simp only [*, bnf]; done) | fail) ?_
            (repeat (first | with_reducible refine W.seq ?_ | with_reducible refine Ops.nil ?_ | with_reducible refine W.region ?_ | refine z_p (kk := ?_) | refine z_a (kk := ?_) | refine z_y (kk := ?_) | refine z_n (kk := ?_) | refine z_u (kk := ?_) | with_reducible refine W.skip ?_ | with_reducible refine W.endb ?_ | with_reducible refine W.block ?_ | refine W.exit rfl ?_ | refine z_l (kk := ?_) | refine z_f (kk := ?_) | refine z_M (kk := ?_) | refine z_m (kk := ?_) | refine z_e (kk := ?_) | refine z_E (kk := ?_) | refine z_d (kk := ?_) | refine z_I (kk := fun _ => ?_) | refine z_J (kk := fun _ => ?_) | refine z_K (kk := fun _ => ?_) | refine z_L (kk := fun _ => ?_) | refine z_T (kk := ?_) | refine z_F (kk := ?_) | refine z_k (kk := fun _ _ _ _ _ => ?_) | refine z_w (kk := fun _ _ => ?_) | refine z_s (kk := fun _ _ _ _ => ?_) | refine z_g (kk := ?_) | refine z_h (kk := ?_)))
            exact W.endl ⟨_, _, ⟨⟨j + 1, _, rfl, by omega, rfl, hO5, hx⟩, by omega⟩, (by repeat (first | exact trivial | refine And.intro rfl ?_))⟩
        | false =>
          rw [hed] at hev hacc
          rw [if_neg (by simp), ← ha] at hacc
          by_cases hgt : rd os ((kid l p).getD j 0) < a
          · have hx : (os.set p a).getD ((kid l p).getD j 0).toNat 0 = acc l dep os (ws.getD p 0) p (j + 1) := by rw [hacc, hrd']; omega
            (repeat (first | with_reducible refine W.seq ?_ | with_reducible refine Ops.nil ?_ | with_reducible refine W.region ?_ | refine z_p (kk := ?_) | refine z_a (kk := ?_) | refine z_y (kk := ?_) | refine z_n (kk := ?_) | refine z_u (kk := ?_) | with_reducible refine W.skip ?_ | with_reducible refine W.endb ?_ | with_reducible refine W.block ?_ | refine W.exit rfl ?_ | refine z_l (kk := ?_) | refine z_f (kk := ?_) | refine z_M (kk := ?_) | refine z_m (kk := ?_) | refine z_e (kk := ?_) | refine z_E (kk := ?_) | refine z_d (kk := ?_) | refine z_I (kk := fun _ => ?_) | refine z_J (kk := fun _ => ?_) | refine z_K (kk := fun _ => ?_) | refine z_L (kk := fun _ => ?_) | refine z_T (kk := ?_) | refine z_F (kk := ?_) | refine z_k (kk := fun _ _ _ _ _ => ?_) | refine z_w (kk := fun _ _ => ?_) | refine z_s (kk := fun _ _ _ _ => ?_) | refine z_g (kk := ?_) | refine z_h (kk := ?_)))
            refine W.condT rfl (by first | rfl | assumption | (simp only [bnf] <;> omega) | (simp only [*, bnf]; done) | fail) ?_
            (repeat (first | with_reducible refine W.seq ?_ | with_reducible refine Ops.nil ?_ | with_reducible refine W.region ?_ | refine z_p (kk := ?_) | refine z_a (kk := ?_) | refine z_y (kk := ?_) | refine z_n (kk := ?_) | refine z_u (kk := ?_) | with_reducible refine W.skip ?_ | with_reducible refine W.endb ?_ | with_reducible refine W.block ?_ | refine W.exit rfl ?_ | refine z_l (kk := ?_) | refine z_f (kk := ?_) | refine z_M (kk := ?_) | refine z_m (kk := ?_) | refine z_e (kk := ?_) | refine z_E (kk := ?_) | refine z_d (kk := ?_) | refine z_I (kk := fun _ => ?_) | refine z_J (kk := fun _ => ?_) | refine z_K (kk := fun _ => ?_) | refine z_L (kk := fun _ => ?_) | refine z_T (kk := ?_) | refine z_F (kk := ?_) | refine z_k (kk := fun _ _ _ _ _ => ?_) | refine z_w (kk := fun _ _ => ?_) | refine z_s (kk := fun _ _ _ _ => ?_) | refine z_g (kk := ?_) | refine z_h (kk := ?_)))
            refine Ops.wrO rfl rfl rfl rfl rfl rfl rfl rfl rfl rfl rfl rfl (by simp) rfl hO5 (by omega) (fun w6 _ hO6 _ _ => ?_)
            rw [List.set_set] at hO6
            (repeat (first | with_reducible refine W.seq ?_ | with_reducible refine Ops.nil ?_ | with_reducible refine W.region ?_ | refine z_p (kk := ?_) | refine z_a (kk := ?_) | refine z_y (kk := ?_) | refine z_n (kk := ?_) | refine z_u (kk := ?_) | with_reducible refine W.skip ?_ | with_reducible refine W.endb ?_ | with_reducible refine W.block ?_ | refine W.exit rfl ?_ | refine z_l (kk := ?_) | refine z_f (kk := ?_) | refine z_M (kk := ?_) | refine z_m (kk := ?_) | refine z_e (kk := ?_) | refine z_E (kk := ?_) | refine z_d (kk := ?_) | refine z_I (kk := fun _ => ?_) | refine z_J (kk := fun _ => ?_) | refine z_K (kk := fun _ => ?_) | refine z_L (kk := fun _ => ?_) | refine z_T (kk := ?_) | refine z_F (kk := ?_) | refine z_k (kk := fun _ _ _ _ _ => ?_) | refine z_w (kk := fun _ _ => ?_) | refine z_s (kk := fun _ _ _ _ => ?_) | refine z_g (kk := ?_) | refine z_h (kk := ?_)))
            exact W.endl ⟨_, _, ⟨⟨j + 1, _, rfl, by omega, rfl, hO6, hx⟩, by omega⟩, (by repeat (first | exact trivial | refine And.intro rfl ?_))⟩
          · have hx : a = acc l dep os (ws.getD p 0) p (j + 1) := by rw [hacc]; omega
            (repeat (first | with_reducible refine W.seq ?_ | with_reducible refine Ops.nil ?_ | with_reducible refine W.region ?_ | refine z_p (kk := ?_) | refine z_a (kk := ?_) | refine z_y (kk := ?_) | refine z_n (kk := ?_) | refine z_u (kk := ?_) | with_reducible refine W.skip ?_ | with_reducible refine W.endb ?_ | with_reducible refine W.block ?_ | refine W.exit rfl ?_ | refine z_l (kk := ?_) | refine z_f (kk := ?_) | refine z_M (kk := ?_) | refine z_m (kk := ?_) | refine z_e (kk := ?_) | refine z_E (kk := ?_) | refine z_d (kk := ?_) | refine z_I (kk := fun _ => ?_) | refine z_J (kk := fun _ => ?_) | refine z_K (kk := fun _ => ?_) | refine z_L (kk := fun _ => ?_) | refine z_T (kk := ?_) | refine z_F (kk := ?_) | refine z_k (kk := fun _ _ _ _ _ => ?_) | refine z_w (kk := fun _ _ => ?_) | refine z_s (kk := fun _ _ _ _ => ?_) | refine z_g (kk := ?_) | refine z_h (kk := ?_)))
            refine W.condF rfl (by first | rfl | assumption | (simp only [bnf] <;> omega) | (simp only [*, bnf]; done) | fail) ?_
            (repeat (first | with_reducible refine W.seq ?_ | with_reducible refine Ops.nil ?_ | with_reducible refine W.region ?_ | refine z_p (kk := ?_) | refine z_a (kk := ?_) | refine z_y (kk := ?_) | refine z_n (kk := ?_) | refine z_u (kk := ?_) | with_reducible refine W.skip ?_ | with_reducible refine W.endb ?_ | with_reducible refine W.block ?_ | refine W.exit rfl ?_ | refine z_l (kk := ?_) | refine z_f (kk := ?_) | refine z_M (kk := ?_) | refine z_m (kk := ?_) | refine z_e (kk := ?_) | refine z_E (kk := ?_) | refine z_d (kk := ?_) | refine z_I (kk := fun _ => ?_) | refine z_J (kk := fun _ => ?_) | refine z_K (kk := fun _ => ?_) | refine z_L (kk := fun _ => ?_) | refine z_T (kk := ?_) | refine z_F (kk := ?_) | refine z_k (kk := fun _ _ _ _ _ => ?_) | refine z_w (kk := fun _ _ => ?_) | refine z_s (kk := fun _ _ _ _ => ?_) | refine z_g (kk := ?_) | refine z_h (kk := ?_)))
            exact W.endl ⟨_, _, ⟨⟨j + 1, _, rfl, by omega, rfl, hO5, hx⟩, by omega⟩, (by repeat (first | exact trivial | refine And.intro rfl ?_))⟩
    · have hjl : j = (kid l p).length := by omega
      subst hjl
      have hval := val_set hT hp hol (x := a) (ha.trans (acc_end (wf := fun i => ws.getD i.toNat 0))) hv
      (repeat (first | with_reducible refine W.seq ?_ | with_reducible refine Ops.nil ?_ | with_reducible refine W.region ?_ | refine z_p (kk := ?_) | refine z_a (kk := ?_) | refine z_y (kk := ?_) | refine z_n (kk := ?_) | refine z_u (kk := ?_) | with_reducible refine W.skip ?_ | with_reducible refine W.endb ?_ | with_reducible refine W.block ?_ | refine W.exit rfl ?_ | refine z_l (kk := ?_) | refine z_f (kk := ?_) | refine z_M (kk := ?_) | refine z_m (kk := ?_) | refine z_e (kk := ?_) | refine z_E (kk := ?_) | refine z_d (kk := ?_) | refine z_I (kk := fun _ => ?_) | refine z_J (kk := fun _ => ?_) | refine z_K (kk := fun _ => ?_) | refine z_L (kk := fun _ => ?_) | refine z_T (kk := ?_) | refine z_F (kk := ?_) | refine z_k (kk := fun _ _ _ _ _ => ?_) | refine z_w (kk := fun _ _ => ?_) | refine z_s (kk := fun _ _ _ _ => ?_) | refine z_g (kk := ?_) | refine z_h (kk := ?_)))
      refine W.endl ⟨_, _, ⟨⟨p, _, rfl, by omega, rfl, hO5, hosl, hval⟩, by omega⟩, (by repeat (first | exact trivial | refine And.intro rfl ?_))⟩
  · have : q = 0 := by omega
    subst this
    (repeat (first | with_reducible refine W.seq ?_ | with_reducible refine Ops.nil ?_ | with_reducible refine W.region ?_ | refine z_p (kk := ?_) | refine z_a (kk := ?_) | refine z_y (kk := ?_) | refine z_n (kk := ?_) | refine z_u (kk := ?_) | with_reducible refine W.skip ?_ | with_reducible refine W.endb ?_ | with_reducible refine W.block ?_ | refine W.exit rfl ?_ | refine z_l (kk := ?_) | refine z_f (kk := ?_) | refine z_M (kk := ?_) | refine z_m (kk := ?_) | refine z_e (kk := ?_) | refine z_E (kk := ?_) | refine z_d (kk := ?_) | refine z_I (kk := fun _ => ?_) | refine z_J (kk := fun _ => ?_) | refine z_K (kk := fun _ => ?_) | refine z_L (kk := fun _ => ?_) | refine z_T (kk := ?_) | refine z_F (kk := ?_) | refine z_k (kk := fun _ _ _ _ _ => ?_) | refine z_w (kk := fun _ _ => ?_) | refine z_s (kk := fun _ _ _ _ => ?_) | refine z_g (kk := ?_) | refine z_h (kk := ?_)))
    exact W.fret rfl ⟨os, hO.up hb1, hol, fun j hj => hv j (by omega) hj⟩
theorem rep_getD {n i : Nat} {x : Int} (h : i < n) : (List.replicate n x).getD i 0 = x := by simp [List.getD_eq_getElem?_getD, h]
theorem valP_congr {l : List Nd} {dep : List Int} {f g : Int → Int} {vs : List Int} (h : ValP l dep f vs) (e : ∀ j : Nat, j < l.length → leafB l j = true → f j = g j) : ValP l dep g vs :=
  ⟨h.len, fun j hj => by
    rw [h.at_ j hj]
    unfold NV
    split
    · rename_i hl; exact e j hj hl
    · rfl⟩
end Go.Proofs.Ytdiljpnfochndaa
/- Words that wrap and shift; copy into a slice of the call's own; x[k:], x[:k]. -/
namespace Go.Proofs.Ytdiljpnfochndaa.VW
open Go Go.RowKit
/-- What an operation on two whole numbers gives, whatever the kind. -/
def bw : BinOp → IntKind → Int → Int → Option Int
  | .add, k, a, b => some (k.wrap (a + b))
  | .sub, k, a, b => some (k.wrap (a - b))
  | .mul, k, a, b => some (k.wrap (a * b))
  | .and, k, a, b => some (k.wrap ((BitVec.ofInt k.bits a &&& BitVec.ofInt k.bits b).toNat))
  | .or, k, a, b => some (k.wrap ((BitVec.ofInt k.bits a ||| BitVec.ofInt k.bits b).toNat))
  | _, _, _, _ => none
def bsh : BinOp → IntKind → Int → Int → Option Int
  | .shl, k, a, b => if b < 0 then none else some (k.wrap (a * 2 ^ (min b.toNat k.bits)))
  | .shr, k, a, b => if b < 0 then none else some (a.fdiv (2 ^ (min b.toNat k.bits)))
  | _, _, _, _ => none
section
variable {P : Program} [hT : Tab P] {n : Nat} {ds : List Deferred} {Φ : Post} {k : List It} {ρ : E} {w : World} {all : Array Oper} {l : List Oper} {md : Option (List Oper)} {s : Nat} {F : World → Prop} {π : List (Nat × Nat)} {L : List Bool}
omit hT in
theorem EV.bw {o : Oper} {op : BinOp} {t t' : Nat} {x y : Operand} {kd : IntKind} {a b v : Int} (ho : o.op = .binOp op t x y t') (hx : ev ρ x = some (.int kd a)) (hy : ev ρ y = some (.int kd b)) (hv : VW.bw op kd a b = some v) : EV P n ρ w o (.int kd v) := by
  intro c hr
  simp only [execOp, ho, hr.ev hx, hr.ev hy]
  cases op <;> simp [VW.bw] at hv <;> subst hv <;> simp [eqGuard, binOp, Op.intArith, Op.intBits, go_sem] <;> rfl
omit hT in
theorem EV.bsh {o : Oper} {op : BinOp} {t t' : Nat} {x y : Operand} {kd kd' : IntKind} {a b v : Int} (ho : o.op = .binOp op t x y t') (hx : ev ρ x = some (.int kd a)) (hy : ev ρ y = some (.int kd' b)) (hv : VW.bsh op kd a b = some v) : EV P n ρ w o (.int kd v) := by
  intro c hr
  simp only [execOp, ho, hr.ev hx, hr.ev hy]
  cases op <;> simp [VW.bsh] at hv <;> (obtain ⟨h1, h2⟩ := hv; subst h2; simp [eqGuard, binOp, Op.shift, go_sem, Int.not_lt.2 h1])
/-- x[:h] -/
theorem EV.slH {o : Oper} {t e sz m c : Nat} {x y : Operand} {A : Option Addr} {h : Int} (ho : o.op = .slice t x none (some y) none) (ht : tyD P t = some (.slice e)) (hs : tyS P e = some sz) (hx : ev ρ x = some (.slice A m c)) (hy : ev ρ y = some (.int .i64 h)) (h0 : 0 ≤ h) (h1 : h ≤ c) : EV P n ρ w o (.slice A h.toNat c) := by
  intro a hr
  have e0 : A.map (fun p : Addr => p.add 0) = A := by cases A <;> simp [Addr.add]
  simp [execOp, ho, hr.ev hx, hr.ev hy, Instr.sliceAt, Instr.slice, Instr.sliceBounds, Instr.sliceBound, asIntOf, run_und (td_slice (tyD_ok ht)), run_sizeOf hs, h0, h1, e0]
/-- x[k:] of a slice of the call's own -/
theorem EV.slO {o : Oper} {t e g m c q : Nat} {x y : Operand} (ho : o.op = .slice t x (some y) none none) (ht : tyD P t = some (.slice e)) (hs : tyS P e = some 1) (hx : ev ρ x = some (.slice (some ⟨g, 0, none⟩) m c)) (hy : ev ρ y = some (.int .i64 (q : Int))) (h1 : q ≤ m) (h2 : q < c) (h3 : m ≤ c) : EV P n ρ w o (.slice (some ⟨g, q, none⟩) (m - q) (c - q)) := by
  intro a hr
  have hne : ¬ c = q := by omega
  have e0 : (⟨g, 0, none⟩ : Addr).add (q * 1) = ⟨g, q, none⟩ := by rw [add_lit]; simp
  have e1 : (⟨g, 0, none⟩ : Addr).add q = ⟨g, q, none⟩ := by rw [add_lit]; simp
  simp [execOp, ho, hr.ev hx, hr.ev hy, Instr.sliceAt, Instr.slice, Instr.sliceBounds, Instr.sliceBound, asIntOf, run_und (td_slice (tyD_ok ht)), run_sizeOf hs, h1, hne, e0, e1]
/-- copy into a slice of the call's own. -/
theorem Ops.cpO {α : Type} {enc : α → Value} {z : α} {w0 : World} {o : Oper} {d t t' e g off m c dl dc : Nat} {x y : Operand} {yv : Value} {os ys : List α} (ho : o.op = .call { callee := .builtin .copy, args := #[x, y], argTypes := #[t, t'] }) (hd : o.dst = some d) (hg : o.guard = none)
    (ht : tyD P t = some (.slice e)) (hs : tyS P e = some 1) (hx : ev ρ x = some (.slice (some ⟨g, off, none⟩) dl dc)) (hy : ev ρ y = some yv) (hO : OI e enc w0 w (.slice (some ⟨g, 0, none⟩) m c) os) (hS : Sl enc z w yv ys) (hp : 0 < ys.length) (hoff : off + dl = os.length) (h1 : ∀ u, (enc u).oneCell' = true)
    (hk : ∀ w', OI e enc w0 w' (.slice (some ⟨g, 0, none⟩) m c) (os.take off ++ ys.take dl ++ os.drop (off + Min.min ys.length dl)) → Kp (fun i => i = g) w w' → w'.heap.size = w.heap.size → Ops none P n ds all k Φ l ((d, .int .i64 (Min.min ys.length dl : Nat)) :: ρ) w') : Ops none P n ds all k Φ (o :: l) ρ w := by
  obtain ⟨hyl, Ay, cy, rfl, hcell⟩ := hS
  obtain ⟨ad, rfl, hcell2⟩ := hcell hp
  have hown := hO.own
  rcases hown.2 with ⟨h2, _⟩ | ⟨g', cap, cur, h2, _, hgb, hnc, hx2, hcs, ht'⟩
  · cases h2
  · cases h2
    obtain ⟨f, hi, h3⟩ := tyS_ok hs
    have hmin : ((ys.take dl).map enc).length = Nat.min ys.length dl := by simp [Nat.min_comm]
    have hsz : (P.info? e).map (·.size) = some 1 := by rw [hi]; simp [h3]
    have hcz : cur.size = c := by simpa using hcs
    have hoc : os.length ≤ c := hnc
    have hfit : off + ((ys.take dl).map enc).length ≤ cur.size := by rw [hmin, hcz]; have : Nat.min ys.length dl ≤ dl := Nat.min_le_right _ _; omega
    have hrun := run_copy_row (P := P) w t t' o.type e g off dl dc ad ys.length cy cur e ((ys.take dl).map enc) (td_slice (tyD_ok ht)) hsz hgb hmin (fun j v hj => by
      rw [List.getElem?_map, List.getElem?_take] at hj
      split at hj
      · rw [Option.map_eq_some_iff] at hj
        obtain ⟨u, hu, rfl⟩ := hj
        have hjl : j < ys.length := (List.getElem?_eq_some_iff.1 hu).1
        rw [hcell2 j hjl]
        simp [List.getD_eq_getElem?_getD, hu]
      · simp at hj) hfit (fun v hv => by obtain ⟨u, _, rfl⟩ := List.mem_map.1 hv; exact h1 u)
    have hlen : ((ys.take dl).map enc).length = Min.min ys.length dl := hmin
    have hkp : Kp (fun i => i = g) w (w.setRow g (cur.toList.take off ++ (ys.take dl).map enc ++ cur.toList.drop (off + ((ys.take dl).map enc).length)).toArray) :=
      ⟨rfl, rfl, rfl, by simp [World.setRow], fun i hi hn => setRow_other w g i _ (by omega)⟩
    have hle : (os.take off ++ ys.take dl ++ os.drop (off + Min.min ys.length dl)).length = os.length := by simp; omega
    refine Ops.val hd hg (fun a hr => ?_) (hk _ ⟨Below.put hO.bel hkp (fun i hi => by subst hi; exact hO.ge _ rfl), ?_, hO.ge⟩ hkp (by simp [World.setRow]))
    · simp [execOp, ho, resolve, invoke, builtin, hr.ev hx, hr.ev hy, hrun, Result.andThen, goInt, Nat.min_comm]
    · refine ⟨by simp, .inr ⟨g, c, _, by rw [hle], Nat.zero_le _, setRow_heap w g cur _ e _ hgb, by rw [hle]; exact hnc, hx2, ?_, ?_⟩⟩
      · rw [List.size_toArray]; simp [hcz] at *; omega
      · rw [hle]
        have hto : cur.toList.take (os.length * 1) = os.map enc := by simpa using ht'
        rw [Nat.mul_one] at hto ⊢
        have hol : os.length ≤ cur.toList.length := by simp [hcz]; omega
        rw [hlen, List.map_append, List.map_append]
        simp only [List.map_take, List.map_drop]
        rw [← hto]
        simp only [List.take_append, List.length_append, List.length_take, List.length_map]
        have e1 : Min.min off cur.toList.length = off := by omega
        rw [e1]
        congr 1
        · congr 1
          · rw [List.take_take, List.take_take]; congr 1; omega
          · rw [List.take_of_length_le (by simp; omega)]
        · rw [List.drop_take]
          congr 1
          omega
/-- A map's literal, entry by entry. -/
theorem Ops.ins {o : Oper} {t kt et r : Nat} {x y z : Operand} {i : Int} {f : Int → Bool} (ho : o.op = .insert t x y z) (hd : o.dst = none) (hg : o.guard = none)
    (ht : tyD P t = some (.map kt et)) (hkt : tyD P kt = some (.int .i64)) (hx : ev ρ x = some (.map (some r))) (hy : ev ρ y = some (.int .i64 i)) (hz : ev ρ z = some (.bool true)) (hm : MapB w r f)
    (hk : ∀ w', MapB w' r (fun k => f k || k == i) → Kp (fun i => i = r) w w' → w'.heap.size = w.heap.size → Ops none P n ds all k Φ l ρ w') : Ops none P n ds all k Φ (o :: l) ρ w := by
  obtain ⟨w', hrun, h1, h2, h3⟩ := run_put (x := i) ht hkt hm
  refine Ops.unit hg hd (fun a hr => ?_) (hk w' h1 h2 h3)
  simp [execOp, ho, hr.ev hx, hr.ev hy, hr.ev hz, hrun]
/-- A load out of a block that was told of earlier. -/
theorem z_D {o : Oper} {d t b q t' : Nat} {x : Operand} {cs : Array Value} {v : Value} {w0 : World} (ho : o.op = .load t x := by exact rfl) (hd : o.dst = some d := by exact rfl) (hg : o.guard = none := by exact rfl)
    (ht : tyAgg P t = some false := by exact rfl) (hx : ev ρ x = some (.pointer (some ⟨b, q, none⟩)) := by exact rfl) (hb : Blk w0 b cs t' := by assumption) (hbel : Below w0.heap.size w0 w := by first | assumption | exact Below.refl _ _) (hi : nth cs.toList q = some v := by exact rfl) (kk : Ops md P n ds all k Φ l ((d, v) :: ρ) w) : Ops md P n ds all k Φ (o :: l) ρ w :=
  Ops.ldB ho hd hg ht hx (hb.kp (Kp.of_below (S := fun _ => False) hbel) (fun e => e)) hi kk
theorem MapB.below {w w' : World} {b : Nat} {f : Int → Bool} (h : MapB w b f) (k : Below w.heap.size w w') : MapB w' b f := h.kp (Kp.of_below (S := fun _ => False) k) (fun e => e)
end
end Go.Proofs.Ytdiljpnfochndaa.VW
/- Within a fence: rounds of a range over a function, and functions that call yield. -/
namespace Go.Proofs.Ytdiljpnfochndaa.VW
open Go Go.RowKit
def Fw : Option Nat → Fence
  | none => Fence.wide
  | some l => Fence.wide.inRound l
theorem Fw_fn (r : Option Nat) (f : FuncId) : (Fw r).fn f := by cases r <;> exact trivial
theorem Fw_dep (r : Option Nat) : (Fw r).depth = none := by cases r <;> rfl
theorem Fw_calls (r : Option Nat) {m : Nat} {P : Program} {f : FuncId} {args : Array Value} {w : World} {R : Ending → World → Prop} (h : Calls P f args w R) : CallsIn (Fw r) m P f args w R := by
  cases r with
  | none => exact callsIn_wide.2 h
  | some l => exact (callsIn_wide.2 h).inRound l
theorem Fw_rows (r : Option Nat) {m : Nat} {P : Program} {row : String} {args : Array Value} {w : World} {R : Value → World → Prop} (h : Rows P row args w R) : RowsIn (Fw r) m P row args w R := by
  cases r with
  | none => exact fun c cs _ => let ⟨v, w', r, s⟩ := h c cs; ⟨v, w', r, stepsIn_wide.2 s⟩
  | some l => exact fun c cs _ => let ⟨v, w', r, s⟩ := h c cs; ⟨v, w', r, stepsIn_wide.2 s⟩
def noDefer (ops : List Oper) : Bool := ops.all fun o => match o.op with | .defer _ => false | _ => true
theorem noDefer_at {ops : List Oper} (h : noDefer ops = true) {o : Oper} (ho : o ∈ ops) (c : Call) : o.op ≠ .defer c := by
  intro e
  have := List.all_eq_true.1 h o ho
  rw [e] at this
  cases this
theorem opIn {r : Option Nat} {m : Nat} {P : Program} {o : Oper} {a : Act} {w : World} {K K' : Act → World → Prop} {Q Q' : Exit → Act → World → Prop} (hd : ∀ c, o.op ≠ .defer c) (hK : ∀ a w, K a w → K' a w) (hp : ∀ c a w, ¬ Q (.panic c) a w) (ho : ¬ LetsOut Q)
    (h : o.wp P a w K Q) : o.wpIn (Fw r) m P a w K' Q' := by
  refine ⟨fun f _ => Fw_fn r f, ?_⟩
  rw [Oper.semAt_eq _ _ _ hd]
  unfold Oper.wp at h
  generalize (execOp a.eval o).run P w = res at *
  have hdep : (Fw r).depth.isSome = true → 1 ≤ m := fun h => by rw [Fw_dep] at h; cases h
  cases res with
  | ok nx w' =>
    cases nx <;> simp only [Oper.upon] at h <;> simp only [Oper.uponIn]
    case value v => exact hK _ _ h
    case skip => exact hK _ _ h
    case defer d => exact hK _ _ h
    case enter f args =>
      refine ⟨hdep, Fw_calls r (h.mono fun e w'' he => ?_)⟩
      cases e with
      | returned v => exact hK _ _ he
      | panicked ch => exact (hp _ _ _ he).elim
      | outgrown => exact (ho he).elim
    case row rw args => exact ⟨hdep, Fw_rows r (h.mono fun v w'' hv => hK _ _ hv)⟩
  | halt x w' =>
    cases x <;> simp only [Oper.upon] at h
    exact (hp _ _ _ h).elim
section
variable {P : Program} {n : Nat} {ds : List Deferred} {ρ : E} {w : World} {r : Option Nat}
/-- A stretch of a region in the text's order. -/
theorem listIn {all : Array Oper} {Q Q' : Exit → Act → World → Prop} {rest : List Oper} (hp : ∀ c a w, ¬ Q (.panic c) a w) (ho : ¬ LetsOut Q) (hr : ∀ a w, Q .normal a w → wpListIn (Fw r) 0 P all Q' rest a w) :
    ∀ (pre : List Oper) (a : Act) (w : World), noDefer pre = true → wpList P all Q pre a w → wpListIn (Fw r) 0 P all Q' (pre ++ rest) a w
  | [], a, w, _, h => hr a w h
  | o :: l, a, w, hd, h => by
    have hd' : noDefer l = true := by unfold noDefer at *; simp only [List.all_cons, Bool.and_eq_true] at hd; exact hd.2
    have ih := fun a w => listIn hp ho hr l a w hd'
    show wpListIn (Fw r) 0 P all Q' (o :: (l ++ rest)) a w
    unfold wpList at h
    unfold wpListIn
    split
    · rename_i hw
      rw [if_pos hw] at h
      exact h.elim (fun h => opIn (noDefer_at hd (by simp)) ih hp ho h) (fun h => (ho h.2).elim)
    · rename_i hw
      rw [if_neg hw] at h
      exact ⟨fun f _ => Fw_fn r f, ih _ _ h⟩
theorem anyIn {all : Array Oper} {Q Q' : Exit → Act → World → Prop} (hp : ∀ c a w, ¬ Q (.panic c) a w) (ho : ¬ LetsOut Q) (hq : ∀ a w, Q .normal a w → Q' .normal a w) (hd : noDefer all.toList = true) :
    ∀ (m : Nat) (L : Array Bool) (a : Act) (w : World), wpAny P .any all Q m L a w → wpAnyIn (Fw r) 0 P .any all Q' m L a w
  | 0, L, a, w, h => ⟨h.1, hq _ _ h.2⟩
  | m + 1, L, a, w, h => by
    refine ⟨fun e => hq _ _ (h.1 e), fun i hi => ?_⟩
    have := h.2 i hi
    unfold wpOp at this
    unfold wpOpIn
    split
    · rename_i e; rw [e] at this; exact anyIn hp ho hq hd m _ _ _ this
    · rename_i o e
      rw [e] at this
      simp only at this
      split
      · rename_i hw
        rw [if_pos hw] at this
        rcases this with h | ⟨_, h⟩
        · refine opIn (noDefer_at hd ?_) (fun a w => anyIn hp ho hq hd m _ a w) hp ho h
          exact Array.mem_toList_iff.2 (Array.mem_of_getElem? e)
        · exact (ho h).elim
      · rename_i hw
        rw [if_neg hw] at this
        exact ⟨fun f _ => Fw_fn r f, anyIn hp ho hq hd m _ _ _ this⟩
def LI (n : Nat) (ds : List Deferred) (Q : Post) (e : Exit) (a : Act) (w : World) : Prop := ∃ ρ', Rep n a ρ' ∧ a.defers = ds ∧ Q e ρ' w
/-- A code's walk within a fence. -/
def Wi (r : Option Nat) (P : Program) (n : Nat) (ds : List Deferred) (c : Code) (Q : Post) (ρ : E) (w : World) : Prop :=
  ∀ a, Rep n a ρ → a.defers = ds → c.wpIn (Fw r) 0 P (LI n ds Q) a w
theorem Wi.mono {c : Code} {Q Q' : Post} (h : Wi r P n ds c Q ρ w) (hj : ∀ e ρ w, Q e ρ w → Q' e ρ w) : Wi r P n ds c Q' ρ w :=
  fun a hr hd => wpIn_mono (h a hr hd) fun e a w ⟨ρ', h1, h2, h3⟩ => ⟨ρ', h1, h2, hj _ _ _ h3⟩
theorem Wi.seq {x y : Code} {Q : Post} (h : Wi r P n ds x (fun e ρ w => match e with | .normal => Wi r P n ds y Q ρ w | e => Q e ρ w) ρ w) : Wi r P n ds (.seq x y) Q ρ w := by
  intro a hr hd
  refine wpIn_seq (wpIn_mono (h a hr hd) ?_)
  rintro e a w ⟨ρ', h1, h2, h3⟩
  cases e with
  | normal => exact h3 a h1 h2
  | _ => exact ⟨ρ', h1, h2, h3⟩
theorem Wi.skip {Q : Post} (h : Q .normal ρ w) : Wi r P n ds .skip Q ρ w := fun a hr hd => wpIn_skip ⟨ρ, hr, hd, h⟩
theorem Wi.exit {id : Nat} {Q : Post} (h : Q (.exit id) ρ w) : Wi r P n ds (.exit id) Q ρ w := fun a hr hd => wpIn_exit ⟨ρ, hr, hd, h⟩
theorem Wi.cond {c : Operand} {x y : Code} {t : Bool} {Q : Post} (hc : ev ρ c = some (.bool t)) (h1 : t = true → Wi r P n ds x Q ρ w) (h2 : t = false → Wi r P n ds y Q ρ w) : Wi r P n ds (.cond c x y) Q ρ w :=
  fun a hr hd => wpIn_cond_split (hr.ev hc) (fun e => h1 e a hr hd) (fun e => h2 e a hr hd)
theorem Wi.block {id : Nat} {c : Code} {Q : Post} (h : Wi r P n ds c (fun e ρ w => match e with | .exit i => if i = id then Q .normal ρ w else Q (.exit i) ρ w | e => Q e ρ w) ρ w) : Wi r P n ds (.block id c) Q ρ w := by
  intro a hr hd
  refine wpIn_block (wpIn_mono (h a hr hd) ?_)
  rintro e a w ⟨ρ', h1, h2, h3⟩
  cases e with
  | exit i =>
    have h3' : if i = id then Q .normal ρ' w else Q (.exit i) ρ' w := h3
    show if i = id then _ else _
    split
    · rename_i e; rw [if_pos e] at h3'; exact ⟨ρ', h1, h2, h3'⟩
    · rename_i e; rw [if_neg e] at h3'; exact ⟨ρ', h1, h2, h3'⟩
  | _ => exact ⟨ρ', h1, h2, h3⟩
theorem Wi.loop {c : Code} {Q : Post} (I : Nat → E → World → Prop) {m : Nat} (h0 : I m ρ w)
    (round : ∀ m ρ w, I m ρ w → Wi r P n ds c (fun e ρ1 w1 => match e with | .normal => ∃ m2 ρ2, (I m2 ρ2 w1 ∧ m2 < m) ∧ Sub ρ2 ρ1 | e => Q e ρ1 w1) ρ w) :
    Wi r P n ds (.loop c) Q ρ w := by
  intro a hr hd
  have key : ∀ m a w, (∃ ρ, Rep n a ρ ∧ a.defers = ds ∧ I m ρ w) → (Code.loop c).wpIn (Fw r) 0 P (LI n ds Q) a w := by
    intro m a w ha
    refine wpIn_loop (P := P) (fun a w => ∃ m ρ, Rep n a ρ ∧ a.defers = ds ∧ I m ρ w) (fun a w => Classical.epsilon fun m => (∃ ρ, Rep n a ρ ∧ a.defers = ds ∧ I m ρ w) ∧ ∀ m', (∃ ρ, Rep n a ρ ∧ a.defers = ds ∧ I m' ρ w) → m ≤ m') ⟨m, ha⟩ ?_
    rintro a w ⟨m1, hm1⟩
    have hmin : ∀ a w, (∃ m, ∃ ρ, Rep n a ρ ∧ a.defers = ds ∧ I m ρ w) → (fun m => (∃ ρ, Rep n a ρ ∧ a.defers = ds ∧ I m ρ w) ∧ ∀ m', (∃ ρ, Rep n a ρ ∧ a.defers = ds ∧ I m' ρ w) → m ≤ m') (Classical.epsilon fun m => (∃ ρ, Rep n a ρ ∧ a.defers = ds ∧ I m ρ w) ∧ ∀ m', (∃ ρ, Rep n a ρ ∧ a.defers = ds ∧ I m' ρ w) → m ≤ m') := by
      intro a w hex
      refine Classical.epsilon_spec (p := fun m => (∃ ρ, Rep n a ρ ∧ a.defers = ds ∧ I m ρ w) ∧ ∀ m', (∃ ρ, Rep n a ρ ∧ a.defers = ds ∧ I m' ρ w) → m ≤ m') ?_
      obtain ⟨m, hm⟩ := hex
      induction m using Nat.strongRecOn with
      | _ m ih =>
        by_cases hlt : ∃ m' < m, ∃ ρ, Rep n a ρ ∧ a.defers = ds ∧ I m' ρ w
        · obtain ⟨m', h1, h2⟩ := hlt
          exact ih m' h1 h2
        · refine ⟨m, hm, fun m' h' => ?_⟩
          by_cases h'' : m ≤ m'
          · exact h''
          · exact absurd ⟨m', by omega, h'⟩ hlt
    obtain ⟨⟨ρ1, hr1, hd1, hI1⟩, hle⟩ := hmin a w ⟨m1, hm1⟩
    refine wpIn_mono (round _ ρ1 w hI1 a hr1 hd1) fun e a2 w2 hl => ?_
    obtain ⟨ρ2, hr2, hd2, hl⟩ := hl
    cases e with
    | normal =>
      obtain ⟨m3, ρ3, ⟨hI3, hlt⟩, hs3⟩ : ∃ m2 ρ2', (I m2 ρ2' w2 ∧ m2 < _) ∧ Sub ρ2' ρ2 := hl
      have hex : ∃ ρ, Rep n a2 ρ ∧ a2.defers = ds ∧ I m3 ρ w2 := ⟨ρ3, hr2.sub hs3, hd2, hI3⟩
      exact ⟨⟨m3, hex⟩, Nat.lt_of_le_of_lt ((hmin a2 w2 ⟨m3, hex⟩).2 m3 hex) hlt⟩
    | _ => exact ⟨ρ2, hr2, hd2, hl⟩
  exact key m a w ⟨ρ, hr, hd, h0⟩
theorem Wi.sub {c : Code} {Q : Post} {ρ' : E} (hs : Sub ρ' ρ) (h : Wi r P n ds c Q ρ' w) : Wi r P n ds c Q ρ w := fun a hr hd => h a (hr.sub hs) hd
/-- Operations of a region within a fence. -/
def OpsI (r : Option Nat) (P : Program) (n : Nat) (ds : List Deferred) (all : Array Oper) (Q : Post) (l : List Oper) (ρ : E) (w : World) : Prop :=
  ∀ a, Rep n a ρ → a.defers = ds → wpListIn (Fw r) 0 P all (LI n ds Q) l a w
theorem Wi.region {id : Nat} {l : List Oper} {Q : Post} (h : OpsI r P n ds l.toArray Q l ρ w) : Wi r P n ds (.region id l.toArray false) Q ρ w :=
  fun a hr hd => wpIn_region_lit (h a hr hd)
theorem OpsI.nil {all : Array Oper} {Q : Post} (h : Q .normal ρ w) : OpsI r P n ds all Q [] ρ w := fun a hr hd => wpListIn_nil ⟨ρ, hr, hd, h⟩
/-- A stretch without yield. -/
theorem OpsI.pre {all : Array Oper} {Q : Post} {rest : List Oper} (pre : List Oper) (hi : (pre.all fun o => dOk n o.dst) = true) (hd : noDefer pre = true)
    (h : Ops none P n ds all [.lp (OpsI r P n ds all Q rest)] (fun _ _ _ => False) pre ρ w) : OpsI r P n ds all Q (pre ++ rest) ρ w := by
  intro a hr hds
  exact listIn (fun c a w h => by obtain ⟨_, _, h⟩ := h; exact h.2) (fun h => by obtain ⟨_, _, _, _, h⟩ := h; exact h.2) (fun a w h => by obtain ⟨ρ', h1, h2, h3⟩ := h; exact h3 a h1 h2) pre a w hd (h hi a hr hds)
theorem OpsI.split {all : Array Oper} {Q : Post} {l pre rest : List Oper} (m : Nat) (h1 : l.take m = pre) (h2 : l.drop m = rest) (hi : (pre.all fun o => dOk n o.dst) = true) (hd : noDefer pre = true)
    (h : Ops none P n ds all [.lp (OpsI r P n ds all Q rest)] (fun _ _ _ => False) pre ρ w) : OpsI r P n ds all Q l ρ w := by
  have := OpsI.pre (r := r) (Q := Q) (rest := rest) pre hi hd h
  rw [← h1, ← h2, List.take_append_drop] at this
  exact this
theorem OpsI.sub {all : Array Oper} {Q : Post} {l : List Oper} {ρ' : E} (hs : Sub ρ' ρ) (h : OpsI r P n ds all Q l ρ' w) : OpsI r P n ds all Q l ρ w := fun a hr hd => h a (hr.sub hs) hd
theorem Wi.regionN {id : Nat} {l : List Oper} {Q : Post} (hi : (l.all fun o => dOk n o.dst) = true) (hd : noDefer l = true) (h : Ops none P n ds l.toArray [.lp (Q .normal)] (fun _ _ _ => False) l ρ w) : Wi r P n ds (.region id l.toArray false) Q ρ w := by
  refine Wi.region ?_
  have := OpsI.pre (r := r) (rest := []) (Q := Q) (all := l.toArray) l hi hd (ρ := ρ) (w := w) (P := P) (ds := ds) (fun hh a hr hds => wpList_mono (fun e a w h => by
    obtain ⟨ρ', h1, h2⟩ := h
    cases e with
    | normal => exact ⟨ρ', h1, LiftD.mk h2.1 (OpsI.nil h2.2)⟩
    | ret => obtain ⟨_, _, h3⟩ := h2; exact h3.elim
    | _ => exact h2.2.elim) _ _ _ (h hh a hr hds))
  rwa [List.append_nil] at this
/-- A guarded call of yield. -/
theorem OpsI.yield {all : Array Oper} {Q : Post} {rest : List Oper} {o : Oper} {d j g : Nat} {x y : Operand} {l : Nat} {v : Value} {ts : Array TypeId}
    (ho : o.op = .call { callee := .value x, args := #[y], argTypes := ts }) (hdst : o.dst = some d) (hlt : Nat.blt d n = true) (hg : o.guard = some (j, true)) (hj : (all[j]?).bind (·.dst) = some g) (hv : look ρ g = some (.bool true))
    (hx : ev ρ x = some (.func (.yield l) #[] #[])) (hy : ev ρ y = some v)
    (hyld : YieldAt (Fw r) 0 P l #[v] w (fun e w' => e = .returned (.bool true) ∧ OpsI r P n ds all Q rest ((d, .bool true) :: ρ) w')) : OpsI r P n ds all Q (o :: rest) ρ w := by
  intro a hr hd
  unfold wpListIn
  have hyy := yielded_of hr hj hv
  rw [if_pos (by simp [Region.wanted, hg, hyy])]
  refine ⟨fun f _ => Fw_fn r f, ?_⟩
  rw [Oper.semAt_eq _ _ _ (by rw [ho]; simp)]
  obtain ⟨fn, tmps, assign, body, hrun, hround⟩ := hyld
  have he : (execOp a.eval o).run P w = .ok (.round l fn tmps assign body) w := by
    have q : #[y].map a.eval = #[v] := by simp only [List.map_toArray, List.map_cons, List.map_nil, hr.ev hy]
    rw [← hrun]
    simp only [execOp, ho, resolve, q]
    simp [hr.ev hx, Deferred.ofValue, invoke]
  rw [he, Oper.uponIn_round]
  refine ⟨fun h => (by rw [Fw_dep] at h; cases h), RoundIn.mono hround fun e w' he => ?_⟩
  obtain ⟨rfl, h⟩ := he
  have hput : Rep n (a.put o.dst (.bool true)) ((d, .bool true) :: ρ) := by
    have := hr.put (d := o.dst) (by rw [hdst]; exact hlt) (.bool true)
    rw [hdst] at this ⊢
    exact this
  exact h _ hput (by rw [hdst]; exact hd)
theorem ordA_any {Φ : Post} {k : List It} {ops : Array Oper} (s : Nat) (π : List (Nat × Nat)) (hi : (ops.toList.all fun o => dOk n o.dst) = true) (hs : Region.noSelect ops = true) (hlen : π.length = ops.size) (hc : chkA ops s π (List.replicate π.length false) = true) (hΦ : ∀ c ρ w, ¬ Φ (.panic c) ρ w)
    (h : OrdA P n ds ops k Φ s (fun w' => Below w.heap.size w w') π (List.replicate π.length false) ρ) (a : Act) (hr : Rep n a ρ) (hd : a.defers = ds) : wpAny P .any ops (lift n ds (Qof P n ds Φ k)) ops.size (Array.replicate ops.size false) a w.drew := by
  have := wpAny_of_A _ _ _ (h hc hs hi (by rw [List.toArray_replicate]; exact Cl.start _) hΦ a hr hd) w.drew (Kp.below (kp_drew w) (Nat.le_refl _) (fun _ _ e => e))
  rw [← hlen]
  rw [List.toArray_replicate] at this
  exact this
theorem Wi.ordA {id : Nat} {ops : Array Oper} {Q : Post} (s : Nat) (π : List (Nat × Nat)) (hm : P.follows .mixedOrders = true) (hi : (ops.toList.all fun o => dOk n o.dst) = true) (hdf : noDefer ops.toList = true) (hs : Region.noSelect ops = true) (hlen : π.length = ops.size) (hc : chkA ops s π (List.replicate π.length false) = true)
    (h : OrdA P n ds ops [.lp (Q .normal)] (fun _ _ _ => False) s (fun w' => Below w.heap.size w w') π (List.replicate π.length false) ρ) : Wi r P n ds (.region id ops true) Q ρ w := by
  intro a hr hd
  refine wpIn_region_any hm ?_
  exact anyIn (fun c a w h => by obtain ⟨_, _, h⟩ := h; exact h.2) (fun h => by obtain ⟨_, _, _, _, h⟩ := h; exact h.2) (fun a w h => by obtain ⟨ρ', h1, h2, h3⟩ := h; exact ⟨ρ', h1, h2, h3⟩) hdf _ _ _ _ (ordA_any s π hi hs hlen hc (fun _ _ _ h => h) h a hr hd)
/-- A function that may call yield, from its first instruction on. -/
theorem callsIn_Wi {f : FuncId} {fn : Func} {c : Code} {vs : List Value} {R : Value → World → Prop} (hf : P.funcs[f]? = some fn) (hb : fn.body = some c) (hs : Nat.ble vs.length fn.ntmps = true)
    (h : Wi none P fn.ntmps [] c (fun e ρ w => (e = .normal ∨ e = .ret) ∧ ∃ us, resT fn.results.toList ρ = some us ∧ R (resV us) w) (argE vs 0) w) : CallsIn (Fw none) 0 P f vs.toArray w (Ret R) := by
  have hs' : vs.length ≤ fn.ntmps := Nat.le_of_ble_eq_true hs
  refine callsIn_of_wp hf hb trivial ?_
  have hrep : Rep fn.ntmps { tmps := vs.toArray ++ Array.replicate (fn.ntmps - vs.toArray.size) undef, defers := [] } (argE vs 0) := by
    refine ⟨by simp; omega, fun t v hl => ?_⟩
    obtain ⟨_, h2⟩ := look_argE vs 0 t v hl
    have ht : t < vs.length := by
      rw [Nat.sub_zero] at h2
      exact (List.getElem?_eq_some_iff.1 h2).1
    rw [Nat.sub_zero] at h2
    simp [Array.getD_eq_getD_getElem?, Array.getElem?_append, ht, h2]
    rw [List.getElem?_eq_getElem ht] at h2
    simpa using h2
  refine wpIn_mono (h _ hrep rfl) ?_
  rintro e a w' ⟨ρ', hr', hd', he, us, hu, hR⟩
  rcases he with rfl | rfl
  · exact ⟨hd', _, run_results hr' hu, _, rfl, hR⟩
  · exact ⟨hd', _, run_results hr' hu, _, rfl, hR⟩
end
end Go.Proofs.Ytdiljpnfochndaa.VW
/- A range over a function, and one of its rounds. -/
namespace Go.Proofs.Ytdiljpnfochndaa.VW
open Go Go.RowKit
abbrev loopRec (fn : FuncId) (tmps : Array Value) (ps : Array Tmp) (assign body : Code) (D : Nat) : Loop := { state := .ready, pending := none, fn, tmps, params := ps, assign, body, defers := D }
section
variable {P : Program} {n : Nat} {ds : List Deferred} {ρ : E} {w : World}
theorem round_in {fn : FuncId} {tmps : Array Value} {p : Nat} {assign body : Code} {D L : Nat} {v : Value} {R : Ending → World → Prop} (hL : w.heap[L]? = some (.loop (loopRec fn tmps #[p] assign body D))) (hr : Rep n { tmps := tmps, defers := [] } ρ) (hp : Nat.blt p n = true)
    (h : Wi (some L) P n [] assign (fun e ρ1 w1 => e = .normal ∧ ∃ r, w1.heap[L]? = some (.loop r) ∧ r.state = .ready ∧ Wi (some L) P n [] body (fun e ρ2 w2 => e = .normal ∧ ∃ r2, w2.heap[L]? = some (.loop r2) ∧ R (.returned (.bool true)) (w2.putObj L (.loop { r2 with state := .ready, pending := none }))) ρ1 (w1.putObj L (.loop { r with state := .busy }))) ((p, v) :: ρ) w) :
    YieldAt (Fw none) 0 P L #[v] w R := by
  refine ⟨fn, _, assign, body, run_yield hL rfl, roundIn_of_wpIn (Fw_fn none fn) ?_⟩
  have hrep : Rep n { tmps := ((#[p] : Array Tmp).zip #[v]).foldl (fun tmps (t, a) => tmps.setIfInBounds t a) tmps, defers := [] } ((p, v) :: ρ) := by
    have := hr.put (d := some p) hp v
    simpa [Act.put, VW.put] using this
  refine wpIn_mono (h _ hrep rfl) ?_
  rintro e a w1 ⟨ρ1, hr1, hd1, rfl, r, hl1, hs1, hb⟩
  refine ⟨_, run_beginRound hl1 hs1, wpIn_mono (hb _ hr1 hd1) ?_⟩
  rintro e a2 w2 ⟨ρ2, hr2, hd2, rfl, r2, hl2, hR⟩
  exact ⟨_, _, run_endRound none hl2, hR⟩
/-- Code with a tail c2 still to come, before which marks may be laid. -/
def JW (P : Program) (n : Nat) (ds : List Deferred) (Φ : Post) (c2 c : Code) (ρ : E) (w : World) : Prop :=
  inB n c = true → ∀ a, Rep n a ρ → a.defers = ds → c.wp P (Exit.then (c2.wp P (lift n ds (Qof P n ds Φ []))) (lift n ds (Qof P n ds Φ []))) a w
theorem W.toJ {Y c2 : Code} {Φ : Post} (h : JW P n ds Φ c2 Y ρ w) : W P n ds [.code (.seq Y c2)] Φ ρ w := by
  intro hi a hr hd
  simp only [inB, Bool.and_eq_true] at hi
  exact wp_seq (h hi.1 a hr hd)
theorem JW.seq {x rest c2 : Code} {Φ : Post} (hi2 : inB n rest = true) (h : W P n ds [.code x, .lp (JW P n ds Φ c2 rest)] Φ ρ w) : JW P n ds Φ c2 (.seq x rest) ρ w := by
  intro hi a hr hd
  simp only [inB, Bool.and_eq_true] at hi
  refine wp_seq (wp_mono (h hi.1 a hr hd) fun e a w hl => ?_)
  cases e with
  | normal =>
    obtain ⟨ρ', hr', hl⟩ := hl
    obtain ⟨hd', hq⟩ := hl
    exact hq hi2 a hr' hd'
  | _ => exact hl
theorem JW.sub {c c2 : Code} {Φ : Post} {ρ' : E} (hs : Sub ρ' ρ) (h : JW P n ds Φ c2 c ρ' w) : JW P n ds Φ c2 c ρ w := fun hi a hr hd => h hi a (hr.sub hs) hd
theorem JW.range {id : Nat} {g : Operand} {p : Nat} {assign body c2 : Code} {gf : Nat} {lb : List Value} {Φ : Post} (hg : ev ρ g = some (.func (.func gf) #[] lb.toArray)) (hgf : callOk P gf = true) (hi2 : inB n c2 = true)
    (h : ∀ fn tmps, Rep n { tmps := tmps, defers := [] } ρ → ∀ D W1, D = w.heap.size → W1 = (w.alloc (.deferred (some []))).alloc (.loop (loopRec fn tmps #[p] assign body D)) →
      CallsIn (Fw none) 0 P gf (.func (.yield (D + 1)) #[] #[] :: lb).toArray W1 (Ret fun _ W2 => ∃ r, W2.heap[D + 1]? = some (.loop r) ∧ r.state = .ready ∧ r.pending = none ∧ W2.heap[D]? = some (.deferred (some [])) ∧
        ∀ W3, W3 = W2.putObj (D + 1) (.loop { r with state := .exhausted }) → W P n ({ target := .collected D, args := #[] } :: ds) [.code c2] (fun e ρ w => e = .ret ∧ w.heap[D]? = some (.deferred (some [])) ∧ Φ .ret ρ (w.putObj D (.deferred none))) ρ W3)) :
    JW P n ds Φ c2 (.block id (.rangeFunc g #[p] assign body)) ρ w := by
  intro hi a hr hd
  refine (wpIn_wide (n := 0)).1 (wpIn_block (wpIn_rangeFunc fun fn hfn => ?_))
  have hrep : Rep n { tmps := a.tmps, defers := [] } ρ := ⟨hr.size, hr.slot⟩
  have hcall := h fn a.tmps hrep _ _ rfl rfl
  have hev := hr.ev hg
  refine ⟨_, _, _, { target := .fn (.func gf) lb.toArray, args := #[.func (.yield (w.heap.size + 1)) #[] #[]] }, (w.alloc (.deferred (some []))).alloc (.loop (loopRec fn a.tmps #[p] assign body w.heap.size)), gf, _, _, run_enterLoop_outer _ _ _ _ _, ?_, fun f' _ => trivial, ?_, fun h => (by cases h), CallsIn.mono hcall ?_⟩
  · simp only [resolve, hev]
    simp [go_sem]
  · have hcf := run_callFunc (P := P) (w := (w.alloc (.deferred (some []))).alloc (.loop (loopRec fn a.tmps #[p] assign body w.heap.size))) (args := (.func (.yield (w.heap.size + 1)) #[] #[] :: lb).toArray) hgf
    have e : (Value.func (.yield (w.heap.size + 1)) #[] #[] :: lb).toArray = #[.func (.yield (w.heap.size + 1)) #[] #[]] ++ lb.toArray := by simp
    rw [e] at hcf ⊢
    simpa [invoke] using hcf
  · rintro e W2 ⟨v, rfl, r, hl, hs, hp, hD, hw⟩
    obtain ⟨st, pe, q1, q2, q3, q4, q5, q6⟩ := r
    simp only at hs hp
    subst hp
    refine ⟨none, _, run_endLoop (P := P) hl (by simp [hs]), ?_⟩
    show c2.wp P _ _ _
    have hw' := hw _ rfl hi2 { a with defers := { target := .collected w.heap.size, args := #[] } :: a.defers } ⟨hr.size, hr.slot⟩ (by rw [hd])
    refine wp_mono hw' ?_
    rintro e a3 w3 ⟨ρ3, hr3, hl3⟩
    cases e with
    | ret =>
      obtain ⟨w4, hm, _, hD3, hΦ⟩ := hl3
      exact ⟨ρ3, hr3, _, hm.trans (.cons hD3 (.nil _ _)), Qof.ret hΦ⟩
    | _ => exact absurd hl3.2.1 (by simp)
end
section
variable {P : Program} [hT : Tab P] {n : Nat} {ds : List Deferred} {ρ : E} {w : World} {all : Array Oper} {k : List It} {Φ : Post} {s : Nat} {F : World → Prop} {π : List (Nat × Nat)} {L : List Bool}
theorem x_D {i d t b q t' : Nat} {o : Oper} {x : Operand} {cs : Array Value} {v : Value} {w0 : World} {c : Bool} (h1 : all[i]? = some o := by exact rfl) (ho : o.op = .load t x := by exact rfl) (hd : o.dst = some d := by exact rfl) (hg : gdB all ρ o.guard = some c := by exact rfl) (hgc : c = true := by exact rfl)
    (ht : tyAgg P t = some false := by exact rfl) (hx : ev ρ x = some (.pointer (some ⟨b, q, none⟩)) := by exact rfl) (hb : Blk w0 b cs t' := by assumption) (hF : ∀ w, F w → Below w0.heap.size w0 w := by first | exact fun _ h => h | (intro _ h; exact Below.via (by assumption) h)) (hi : nth cs.toList q = some v := by exact rfl) (kk : OrdA P n ds all k Φ s F π (L.set i true) ((d, v) :: ρ)) : OrdA P n ds all k Φ s F ((i, 2) :: π) L ρ :=
  OrdA.read h1 hd hg hgc (fun w hFw => EV.ld ho ht hx ((hb.kp (Kp.of_below (S := fun _ => False) (hF w hFw)) (fun e => e)).cell (by rw [nth_eq, Array.getElem?_toList] at hi; exact hi))) kk
end
end Go.Proofs.Ytdiljpnfochndaa.VW
