/- A part of the walk: what this seat's statements share. -/
import Derived.Test.YtdiljpnfochndaaZG7
import Derived.Test.YtdiljpnfochndaaZG2
import Derived.Test.YtdiljpnfochndaaZG3
set_option linter.unusedVariables false
set_option linter.unusedSimpArgs false
set_option linter.unusedSectionVars false
/- Reading trees, by facts that were told earlier. -/
namespace Go.Proofs.Ytdiljpnfochndaa
open Go Go.RowKit Go.Proofs.Ytdiljpnfochndaa.VW
open Go.Proofs.Ytdiljpnfochndaa.HP (Nd kid wor leafB)
section
variable {P : Program} [hT : Tab P] {n : Nat} {ds : List Deferred} {Φ : Post} {k : List It} {ρ : E} {w : World} {all : Array Oper} {l : List Oper} {md : Option (List Oper)} {s : Nat} {F : World → Prop} {π : List (Nat × Nat)} {L : List Bool}
theorem TreeM.at_ {w0 : World} {v : Value} {tr : List Nd} (h : TreeM w0 v tr) {i : Int} (h0 : 0 ≤ i) (hi : i < tr.length) : ∃ a c A' c', v = .slice (some a) tr.length c ∧ SlI w0 (.slice A' (kid tr i).length c') (kid tr i) ∧
    (∀ w, Below w0.heap.size w0 w → w.cell? (a.add (i.toNat * 2)) = some (.slice A' (kid tr i).length c') ∧ w.cell? ((a.add (i.toNat * 2)).add 1) = some (.int .i64 (wor tr i))) := by
  obtain ⟨A, c, cvs, rfl, h, hc⟩ := h
  obtain ⟨a, rfl, hcell⟩ := h (by omega)
  have h4 := hcell i.toNat (by omega)
  have h5 := hc i.toNat (by omega)
  obtain ⟨A', c', e⟩ := Sl.sl h5
  rw [e] at h4 h5
  refine ⟨a, c, A', c', rfl, h5, fun w hb => ?_⟩
  have kk := Kp.of_below (S := fun _ => False) hb
  exact ⟨cell_kp kk h4.1 (fun e => e), cell_kp kk h4.2 (fun e => e)⟩
theorem add_zero' (p : Addr) : p.add 0 = p := by simp [Addr.add]
theorem Ops.rdKB {o1 o2 o3 : Oper} {d1 d2 d3 t s t' : Nat} {x y : Operand} {v : Value} {i : Int} {tr : List Nd} {w0 : World} {c1 c2 c3 : Bool}
    (h1 : o1.op = .indexAddr t x y) (hd1 : o1.dst = some d1) (hg1 : gdB all ρ o1.guard = some c1) (hc1 : c1 = true) (h2 : o2.op = .fieldAddr s (.tmp d1) 0) (hd2 : o2.dst = some d2) (hg2 : ∀ p, gdB all ((d1, .pointer p) :: ρ) o2.guard = some c2) (hc2 : c2 = true) (h3 : o3.op = .load t' (.tmp d2)) (hd3 : o3.dst = some d3) (hg3 : ∀ p q, gdB all ((d2, .pointer q) :: (d1, .pointer p) :: ρ) o3.guard = some c3) (hc3 : c3 = true)
    (ht : tyD P t = some (.slice s)) (hs : tyS P s = some 2) (hf : fieldOff P s 0 = some (0, 1)) (ha : tyAgg P t' = some false) (hx : ev ρ x = some v) (hy : ev ρ y = some (.int .i64 i)) (htr : TreeM w0 v tr) (hbel : Below w0.heap.size w0 w) (h0 : 0 ≤ i) (hi : i < tr.length)
    (hk : ∀ A c p q, SlI w0 (.slice A (kid tr i).length c) (kid tr i) → Ops md P n ds all k Φ l ((d3, .slice A (kid tr i).length c) :: (d2, q) :: (d1, p) :: ρ) w) : Ops md P n ds all k Φ (o1 :: o2 :: o3 :: l) ρ w := by
  obtain ⟨a, c, A', c', rfl, hsl, hcell⟩ := htr.at_ h0 hi
  refine Ops.evG hd1 hg1 hc1 (EV.idx h1 ht hs hx hy h0 hi) (Ops.evG hd2 (hg2 _) hc2 (EV.fld h2 hf (ev_top _ _ _)) ?_)
  rw [add_zero']
  exact Ops.evG hd3 (hg3 _ _) hc3 (EV.ld h3 ha (ev_top _ _ _) (hcell w hbel).1) (hk _ _ _ _ hsl)
theorem Ops.rdWB {o1 o2 o3 : Oper} {d1 d2 d3 t s t' : Nat} {x y : Operand} {v : Value} {i : Int} {tr : List Nd} {w0 : World} {c1 c2 c3 : Bool}
    (h1 : o1.op = .indexAddr t x y) (hd1 : o1.dst = some d1) (hg1 : gdB all ρ o1.guard = some c1) (hc1 : c1 = true) (h2 : o2.op = .fieldAddr s (.tmp d1) 1) (hd2 : o2.dst = some d2) (hg2 : ∀ p, gdB all ((d1, .pointer p) :: ρ) o2.guard = some c2) (hc2 : c2 = true) (h3 : o3.op = .load t' (.tmp d2)) (hd3 : o3.dst = some d3) (hg3 : ∀ p q, gdB all ((d2, .pointer q) :: (d1, .pointer p) :: ρ) o3.guard = some c3) (hc3 : c3 = true)
    (ht : tyD P t = some (.slice s)) (hs : tyS P s = some 2) (hf : fieldOff P s 1 = some (1, 1)) (ha : tyAgg P t' = some false) (hx : ev ρ x = some v) (hy : ev ρ y = some (.int .i64 i)) (htr : TreeM w0 v tr) (hbel : Below w0.heap.size w0 w) (h0 : 0 ≤ i) (hi : i < tr.length)
    (hk : ∀ p q, Ops md P n ds all k Φ l ((d3, .int .i64 (wor tr i)) :: (d2, q) :: (d1, p) :: ρ) w) : Ops md P n ds all k Φ (o1 :: o2 :: o3 :: l) ρ w := by
  obtain ⟨a, c, A', c', rfl, hsl, hcell⟩ := htr.at_ h0 hi
  exact Ops.evG hd1 hg1 hc1 (EV.idx h1 ht hs hx hy h0 hi) (Ops.evG hd2 (hg2 _) hc2 (EV.fld h2 hf (ev_top _ _ _)) (Ops.evG hd3 (hg3 _ _) hc3 (EV.ld h3 ha (ev_top _ _ _) (hcell w hbel).2) (hk _ _)))
theorem Ops.rdNB {o1 o2 : Oper} {d1 d2 t s t' : Nat} {x y : Operand} {v : Value} {i : Int} {tr : List Nd} {w0 : World} {c1 c2 : Bool}
    (h1 : o1.op = .indexAddr t x y) (hd1 : o1.dst = some d1) (hg1 : gdB all ρ o1.guard = some c1) (hc1 : c1 = true) (h2 : o2.op = .load t' (.tmp d1)) (hd2 : o2.dst = some d2) (hg2 : ∀ p, gdB all ((d1, .pointer p) :: ρ) o2.guard = some c2) (hc2 : c2 = true)
    (ht : tyD P t = some (.slice s)) (hs : tyS P s = some 2) (hs' : tyS P t' = some 2) (ha : tyAgg P t' = some true) (hx : ev ρ x = some v) (hy : ev ρ y = some (.int .i64 i)) (htr : TreeM w0 v tr) (hbel : Below w0.heap.size w0 w) (h0 : 0 ≤ i) (hi : i < tr.length)
    (hk : ∀ A c p, SlI w0 (.slice A (kid tr i).length c) (kid tr i) → Ops md P n ds all k Φ l ((d2, .agg #[.slice A (kid tr i).length c, .int .i64 (wor tr i)]) :: (d1, p) :: ρ) w) : Ops md P n ds all k Φ (o1 :: o2 :: l) ρ w := by
  obtain ⟨a, c, A', c', rfl, hsl, hcell⟩ := htr.at_ h0 hi
  exact Ops.evG hd1 hg1 hc1 (EV.idx h1 ht hs hx hy h0 hi) (Ops.evG hd2 (hg2 _) hc2 (EV.ld2 h2 ha hs' (ev_top _ _ _) (hcell w hbel).1 (hcell w hbel).2) (hk _ _ _ hsl))
theorem OrdA.rdK {i1 i2 i3 d1 d2 d3 t s' t' : Nat} {o1 o2 o3 : Oper} {x y : Operand} {v : Value} {i : Int} {tr : List Nd} {w0 : World} {c1 c2 c3 : Bool}
    (e1 : all[i1]? = some o1) (h1 : o1.op = .indexAddr t x y) (hd1 : o1.dst = some d1) (hg1 : gdB all ρ o1.guard = some c1) (hc1 : c1 = true) (e2 : all[i2]? = some o2) (h2 : o2.op = .fieldAddr s' (.tmp d1) 0) (hd2 : o2.dst = some d2) (hg2 : ∀ p, gdB all ((d1, .pointer p) :: ρ) o2.guard = some c2) (hc2 : c2 = true)
    (e3 : all[i3]? = some o3) (h3 : o3.op = .load t' (.tmp d2)) (hd3 : o3.dst = some d3) (hg3 : ∀ p q, gdB all ((d2, .pointer q) :: (d1, .pointer p) :: ρ) o3.guard = some c3) (hc3 : c3 = true)
    (ht : tyD P t = some (.slice s')) (hs : tyS P s' = some 2) (hf : fieldOff P s' 0 = some (0, 1)) (ha : tyAgg P t' = some false) (hx : ev ρ x = some v) (hy : ev ρ y = some (.int .i64 i)) (htr : TreeM w0 v tr) (hF : ∀ w, F w → Below w0.heap.size w0 w) (h0 : 0 ≤ i) (hi : i < tr.length)
    (hk : ∀ A c p q, SlI w0 (.slice A (kid tr i).length c) (kid tr i) → OrdA P n ds all k Φ s F π (((L.set i1 true).set i2 true).set i3 true) ((d3, .slice A (kid tr i).length c) :: (d2, q) :: (d1, p) :: ρ)) : OrdA P n ds all k Φ s F ((i1, 1) :: (i2, 1) :: (i3, 2) :: π) L ρ := by
  obtain ⟨a, c, A', c', rfl, hsl, hcell⟩ := htr.at_ h0 hi
  refine OrdA.pure e1 hd1 hg1 hc1 (fun w => EV.idx h1 ht hs hx hy h0 hi) (OrdA.pure e2 hd2 (hg2 _) hc2 (fun w => EV.fld h2 hf (ev_top _ _ _)) ?_)
  rw [add_zero']
  exact OrdA.read e3 hd3 (hg3 _ _) hc3 (fun w hw => EV.ld h3 ha (ev_top _ _ _) (hcell w (hF w hw)).1) (hk _ _ _ _ hsl)
theorem OrdA.rdW {i1 i2 i3 d1 d2 d3 t s' t' : Nat} {o1 o2 o3 : Oper} {x y : Operand} {v : Value} {i : Int} {tr : List Nd} {w0 : World} {c1 c2 c3 : Bool}
    (e1 : all[i1]? = some o1) (h1 : o1.op = .indexAddr t x y) (hd1 : o1.dst = some d1) (hg1 : gdB all ρ o1.guard = some c1) (hc1 : c1 = true) (e2 : all[i2]? = some o2) (h2 : o2.op = .fieldAddr s' (.tmp d1) 1) (hd2 : o2.dst = some d2) (hg2 : ∀ p, gdB all ((d1, .pointer p) :: ρ) o2.guard = some c2) (hc2 : c2 = true)
    (e3 : all[i3]? = some o3) (h3 : o3.op = .load t' (.tmp d2)) (hd3 : o3.dst = some d3) (hg3 : ∀ p q, gdB all ((d2, .pointer q) :: (d1, .pointer p) :: ρ) o3.guard = some c3) (hc3 : c3 = true)
    (ht : tyD P t = some (.slice s')) (hs : tyS P s' = some 2) (hf : fieldOff P s' 1 = some (1, 1)) (ha : tyAgg P t' = some false) (hx : ev ρ x = some v) (hy : ev ρ y = some (.int .i64 i)) (htr : TreeM w0 v tr) (hF : ∀ w, F w → Below w0.heap.size w0 w) (h0 : 0 ≤ i) (hi : i < tr.length)
    (hk : ∀ p q, OrdA P n ds all k Φ s F π (((L.set i1 true).set i2 true).set i3 true) ((d3, .int .i64 (wor tr i)) :: (d2, q) :: (d1, p) :: ρ)) : OrdA P n ds all k Φ s F ((i1, 1) :: (i2, 1) :: (i3, 2) :: π) L ρ := by
  obtain ⟨a, c, A', c', rfl, hsl, hcell⟩ := htr.at_ h0 hi
  exact OrdA.pure e1 hd1 hg1 hc1 (fun w => EV.idx h1 ht hs hx hy h0 hi) (OrdA.pure e2 hd2 (hg2 _) hc2 (fun w => EV.fld h2 hf (ev_top _ _ _)) (OrdA.read e3 hd3 (hg3 _ _) hc3 (fun w hw => EV.ld h3 ha (ev_top _ _ _) (hcell w (hF w hw)).2) (hk _ _)))
theorem OrdA.rdN {i1 i2 d1 d2 t s' t' : Nat} {o1 o2 : Oper} {x y : Operand} {v : Value} {i : Int} {tr : List Nd} {w0 : World} {c1 c2 : Bool}
    (e1 : all[i1]? = some o1) (h1 : o1.op = .indexAddr t x y) (hd1 : o1.dst = some d1) (hg1 : gdB all ρ o1.guard = some c1) (hc1 : c1 = true) (e2 : all[i2]? = some o2) (h2 : o2.op = .load t' (.tmp d1)) (hd2 : o2.dst = some d2) (hg2 : ∀ p, gdB all ((d1, .pointer p) :: ρ) o2.guard = some c2) (hc2 : c2 = true)
    (ht : tyD P t = some (.slice s')) (hs : tyS P s' = some 2) (hs' : tyS P t' = some 2) (ha : tyAgg P t' = some true) (hx : ev ρ x = some v) (hy : ev ρ y = some (.int .i64 i)) (htr : TreeM w0 v tr) (hF : ∀ w, F w → Below w0.heap.size w0 w) (h0 : 0 ≤ i) (hi : i < tr.length)
    (hk : ∀ A c p, SlI w0 (.slice A (kid tr i).length c) (kid tr i) → OrdA P n ds all k Φ s F π ((L.set i1 true).set i2 true) ((d2, .agg #[.slice A (kid tr i).length c, .int .i64 (wor tr i)]) :: (d1, p) :: ρ)) : OrdA P n ds all k Φ s F ((i1, 1) :: (i2, 2) :: π) L ρ := by
  obtain ⟨a, c, A', c', rfl, hsl, hcell⟩ := htr.at_ h0 hi
  exact OrdA.pure e1 hd1 hg1 hc1 (fun w => EV.idx h1 ht hs hx hy h0 hi) (OrdA.read e2 hd2 (hg2 _) hc2 (fun w hw => EV.ld2 h2 ha hs' (ev_top _ _ _) (hcell w (hF w hw)).1 (hcell w (hF w hw)).2) (hk _ _ _ hsl))
theorem _root_.Go.Proofs.Ytdiljpnfochndaa.VW.Ord.rdK {i1 i2 i3 d1 d2 d3 t s' t' : Nat} {o1 o2 o3 : Oper} {x y : Operand} {v : Value} {i : Int} {tr : List Nd} {w0 : World} {c1 c2 c3 : Bool}
    (e1 : all[i1]? = some o1) (h1 : o1.op = .indexAddr t x y) (hd1 : o1.dst = some d1) (hg1 : gdB all ρ o1.guard = some c1) (hc1 : c1 = true) (e2 : all[i2]? = some o2) (h2 : o2.op = .fieldAddr s' (.tmp d1) 0) (hd2 : o2.dst = some d2) (hg2 : ∀ p, gdB all ((d1, .pointer p) :: ρ) o2.guard = some c2) (hc2 : c2 = true)
    (e3 : all[i3]? = some o3) (h3 : o3.op = .load t' (.tmp d2)) (hd3 : o3.dst = some d3) (hg3 : ∀ p q, gdB all ((d2, .pointer q) :: (d1, .pointer p) :: ρ) o3.guard = some c3) (hc3 : c3 = true)
    (ht : tyD P t = some (.slice s')) (hs : tyS P s' = some 2) (hf : fieldOff P s' 0 = some (0, 1)) (ha : tyAgg P t' = some false) (hx : ev ρ x = some v) (hy : ev ρ y = some (.int .i64 i)) (htr : TreeM w0 v tr) (hF : ∀ w, F w → Below w0.heap.size w0 w) (h0 : 0 ≤ i) (hi : i < tr.length)
    (hΦ : ∀ c ρ w, ¬ Φ (.panic c) ρ w) (hk : ∀ A c p q, SlI w0 (.slice A (kid tr i).length c) (kid tr i) → VW.Ord P n ds all k Φ s F π (((L.set i1 true).set i2 true).set i3 true) ((d3, .slice A (kid tr i).length c) :: (d2, q) :: (d1, p) :: ρ) w) : VW.Ord P n ds all k Φ s F ((i1, 1) :: (i2, 1) :: (i3, 2) :: π) L ρ w := by
  obtain ⟨a, c, A', c', rfl, hsl, hcell⟩ := htr.at_ h0 hi
  refine VW.Ord.pure e1 hd1 hg1 hc1 hΦ (fun w => EV.idx h1 ht hs hx hy h0 hi) (VW.Ord.pure e2 hd2 (hg2 _) hc2 hΦ (fun w => EV.fld h2 hf (ev_top _ _ _)) ?_)
  rw [add_zero']
  exact VW.Ord.read' e3 hd3 (hg3 _ _) hc3 hΦ (fun w hw => EV.ld h3 ha (ev_top _ _ _) (hcell w (hF w hw)).1) (hk _ _ _ _ hsl)
theorem _root_.Go.Proofs.Ytdiljpnfochndaa.VW.Ord.rdW {i1 i2 i3 d1 d2 d3 t s' t' : Nat} {o1 o2 o3 : Oper} {x y : Operand} {v : Value} {i : Int} {tr : List Nd} {w0 : World} {c1 c2 c3 : Bool}
    (e1 : all[i1]? = some o1) (h1 : o1.op = .indexAddr t x y) (hd1 : o1.dst = some d1) (hg1 : gdB all ρ o1.guard = some c1) (hc1 : c1 = true) (e2 : all[i2]? = some o2) (h2 : o2.op = .fieldAddr s' (.tmp d1) 1) (hd2 : o2.dst = some d2) (hg2 : ∀ p, gdB all ((d1, .pointer p) :: ρ) o2.guard = some c2) (hc2 : c2 = true)
    (e3 : all[i3]? = some o3) (h3 : o3.op = .load t' (.tmp d2)) (hd3 : o3.dst = some d3) (hg3 : ∀ p q, gdB all ((d2, .pointer q) :: (d1, .pointer p) :: ρ) o3.guard = some c3) (hc3 : c3 = true)
    (ht : tyD P t = some (.slice s')) (hs : tyS P s' = some 2) (hf : fieldOff P s' 1 = some (1, 1)) (ha : tyAgg P t' = some false) (hx : ev ρ x = some v) (hy : ev ρ y = some (.int .i64 i)) (htr : TreeM w0 v tr) (hF : ∀ w, F w → Below w0.heap.size w0 w) (h0 : 0 ≤ i) (hi : i < tr.length)
    (hΦ : ∀ c ρ w, ¬ Φ (.panic c) ρ w) (hk : ∀ p q, VW.Ord P n ds all k Φ s F π (((L.set i1 true).set i2 true).set i3 true) ((d3, .int .i64 (wor tr i)) :: (d2, q) :: (d1, p) :: ρ) w) : VW.Ord P n ds all k Φ s F ((i1, 1) :: (i2, 1) :: (i3, 2) :: π) L ρ w := by
  obtain ⟨a, c, A', c', rfl, hsl, hcell⟩ := htr.at_ h0 hi
  exact VW.Ord.pure e1 hd1 hg1 hc1 hΦ (fun w => EV.idx h1 ht hs hx hy h0 hi) (VW.Ord.pure e2 hd2 (hg2 _) hc2 hΦ (fun w => EV.fld h2 hf (ev_top _ _ _)) (VW.Ord.read' e3 hd3 (hg3 _ _) hc3 hΦ (fun w hw => EV.ld h3 ha (ev_top _ _ _) (hcell w (hF w hw)).2) (hk _ _)))
theorem _root_.Go.Proofs.Ytdiljpnfochndaa.VW.Ord.rdN {i1 i2 d1 d2 t s' t' : Nat} {o1 o2 : Oper} {x y : Operand} {v : Value} {i : Int} {tr : List Nd} {w0 : World} {c1 c2 : Bool}
    (e1 : all[i1]? = some o1) (h1 : o1.op = .indexAddr t x y) (hd1 : o1.dst = some d1) (hg1 : gdB all ρ o1.guard = some c1) (hc1 : c1 = true) (e2 : all[i2]? = some o2) (h2 : o2.op = .load t' (.tmp d1)) (hd2 : o2.dst = some d2) (hg2 : ∀ p, gdB all ((d1, .pointer p) :: ρ) o2.guard = some c2) (hc2 : c2 = true)
    (ht : tyD P t = some (.slice s')) (hs : tyS P s' = some 2) (hs' : tyS P t' = some 2) (ha : tyAgg P t' = some true) (hx : ev ρ x = some v) (hy : ev ρ y = some (.int .i64 i)) (htr : TreeM w0 v tr) (hF : ∀ w, F w → Below w0.heap.size w0 w) (h0 : 0 ≤ i) (hi : i < tr.length)
    (hΦ : ∀ c ρ w, ¬ Φ (.panic c) ρ w) (hk : ∀ A c p, SlI w0 (.slice A (kid tr i).length c) (kid tr i) → VW.Ord P n ds all k Φ s F π ((L.set i1 true).set i2 true) ((d2, .agg #[.slice A (kid tr i).length c, .int .i64 (wor tr i)]) :: (d1, p) :: ρ) w) : VW.Ord P n ds all k Φ s F ((i1, 1) :: (i2, 2) :: π) L ρ w := by
  obtain ⟨a, c, A', c', rfl, hsl, hcell⟩ := htr.at_ h0 hi
  exact VW.Ord.pure e1 hd1 hg1 hc1 hΦ (fun w => EV.idx h1 ht hs hx hy h0 hi) (VW.Ord.read' e2 hd2 (hg2 _) hc2 hΦ (fun w hw => EV.ld2 h2 ha hs' (ev_top _ _ _) (hcell w (hF w hw)).1 (hcell w (hF w hw)).2) (hk _ _ _ hsl))
end
end Go.Proofs.Ytdiljpnfochndaa
/- The rules about trees once more, with standing arguments. -/
namespace Go.Proofs.Ytdiljpnfochndaa
open Go Go.RowKit Go.Proofs.Ytdiljpnfochndaa.VW
open Go.Proofs.Ytdiljpnfochndaa.HP (Nd kid wor leafB)
section
variable {P : Program} [hT : Tab P] {n : Nat} {ds : List Deferred} {Φ : Post} {k : List It} {ρ : E} {w : World} {all : Array Oper} {l : List Oper} {md : Option (List Oper)} {s : Nat} {F : World → Prop} {π : List (Nat × Nat)} {L : List Bool}
theorem z_k {o1 o2 o3 : Oper} {d1 d2 d3 t s t' : Nat} {x y : Operand} {v : Value} {i : Int} {tr : List Nd} {w0 : World} {c1 c2 c3 : Bool} (h1 : o1.op = .indexAddr t x y := by exact rfl) (hd1 : o1.dst = some d1 := by exact rfl) (hg1 : gdB all ρ o1.guard = some c1 := by exact rfl) (hc1 : c1 = true := by exact rfl) (h2 : o2.op = .fieldAddr s (.tmp d1) 0 := by exact rfl) (hd2 : o2.dst = some d2 := by exact rfl) (hg2 : ∀ p, gdB all ((d1, .pointer p) :: ρ) o2.guard = some c2 := by exact fun _ => rfl) (hc2 : c2 = true := by exact rfl) (h3 : o3.op = .load t' (.tmp d2) := by exact rfl) (hd3 : o3.dst = some d3 := by exact rfl) (hg3 : ∀ p q, gdB all ((d2, .pointer q) :: (d1, .pointer p) :: ρ) o3.guard = some c3 := by exact fun _ _ => rfl) (hc3 : c3 = true := by exact rfl) (ht : tyD P t = some (.slice s) := by exact rfl) (hs : tyS P s = some 2 := by exact rfl) (hf : fieldOff P s 0 = some (0, 1) := by exact rfl) (ha : tyAgg P t' = some false := by exact rfl) (hx : ev ρ x = some v := by exact rfl) (hy : ev ρ y = some (.int .i64 i) := by exact rfl) (htr : TreeM w0 v tr := by assumption) (hbel : Below w0.heap.size w0 w := by first | assumption | exact Below.refl _ _) (h0 : 0 ≤ i := by omega) (hi : i < tr.length := by omega) (kk : ∀ A c p q, SlI w0 (.slice A (kid tr i).length c) (kid tr i) → Ops md P n ds all k Φ l ((d3, .slice A (kid tr i).length c) :: (d2, q) :: (d1, p) :: ρ) w) : Ops md P n ds all k Φ (o1 :: o2 :: o3 :: l) ρ w := Ops.rdKB h1 hd1 hg1 hc1 h2 hd2 hg2 hc2 h3 hd3 hg3 hc3 ht hs hf ha hx hy htr hbel h0 hi kk
theorem z_w {o1 o2 o3 : Oper} {d1 d2 d3 t s t' : Nat} {x y : Operand} {v : Value} {i : Int} {tr : List Nd} {w0 : World} {c1 c2 c3 : Bool} (h1 : o1.op = .indexAddr t x y := by exact rfl) (hd1 : o1.dst = some d1 := by exact rfl) (hg1 : gdB all ρ o1.guard = some c1 := by exact rfl) (hc1 : c1 = true := by exact rfl) (h2 : o2.op = .fieldAddr s (.tmp d1) 1 := by exact rfl) (hd2 : o2.dst = some d2 := by exact rfl) (hg2 : ∀ p, gdB all ((d1, .pointer p) :: ρ) o2.guard = some c2 := by exact fun _ => rfl) (hc2 : c2 = true := by exact rfl) (h3 : o3.op = .load t' (.tmp d2) := by exact rfl) (hd3 : o3.dst = some d3 := by exact rfl) (hg3 : ∀ p q, gdB all ((d2, .pointer q) :: (d1, .pointer p) :: ρ) o3.guard = some c3 := by exact fun _ _ => rfl) (hc3 : c3 = true := by exact rfl) (ht : tyD P t = some (.slice s) := by exact rfl) (hs : tyS P s = some 2 := by exact rfl) (hf : fieldOff P s 1 = some (1, 1) := by exact rfl) (ha : tyAgg P t' = some false := by exact rfl) (hx : ev ρ x = some v := by exact rfl) (hy : ev ρ y = some (.int .i64 i) := by exact rfl) (htr : TreeM w0 v tr := by assumption) (hbel : Below w0.heap.size w0 w := by first | assumption | exact Below.refl _ _) (h0 : 0 ≤ i := by omega) (hi : i < tr.length := by omega) (kk : ∀ p q, Ops md P n ds all k Φ l ((d3, .int .i64 (wor tr i)) :: (d2, q) :: (d1, p) :: ρ) w) : Ops md P n ds all k Φ (o1 :: o2 :: o3 :: l) ρ w := Ops.rdWB h1 hd1 hg1 hc1 h2 hd2 hg2 hc2 h3 hd3 hg3 hc3 ht hs hf ha hx hy htr hbel h0 hi kk
theorem z_s {o1 o2 : Oper} {d1 d2 t s t' : Nat} {x y : Operand} {v : Value} {i : Int} {tr : List Nd} {w0 : World} {c1 c2 : Bool} (h1 : o1.op = .indexAddr t x y := by exact rfl) (hd1 : o1.dst = some d1 := by exact rfl) (hg1 : gdB all ρ o1.guard = some c1 := by exact rfl) (hc1 : c1 = true := by exact rfl) (h2 : o2.op = .load t' (.tmp d1) := by exact rfl) (hd2 : o2.dst = some d2 := by exact rfl) (hg2 : ∀ p, gdB all ((d1, .pointer p) :: ρ) o2.guard = some c2 := by exact fun _ => rfl) (hc2 : c2 = true := by exact rfl) (ht : tyD P t = some (.slice s) := by exact rfl) (hs : tyS P s = some 2 := by exact rfl) (hs' : tyS P t' = some 2 := by exact rfl) (ha : tyAgg P t' = some true := by exact rfl) (hx : ev ρ x = some v := by exact rfl) (hy : ev ρ y = some (.int .i64 i) := by exact rfl) (htr : TreeM w0 v tr := by assumption) (hbel : Below w0.heap.size w0 w := by first | assumption | exact Below.refl _ _) (h0 : 0 ≤ i := by omega) (hi : i < tr.length := by omega) (kk : ∀ A c p, SlI w0 (.slice A (kid tr i).length c) (kid tr i) → Ops md P n ds all k Φ l ((d2, .agg #[.slice A (kid tr i).length c, .int .i64 (wor tr i)]) :: (d1, p) :: ρ) w) : Ops md P n ds all k Φ (o1 :: o2 :: l) ρ w := Ops.rdNB h1 hd1 hg1 hc1 h2 hd2 hg2 hc2 ht hs hs' ha hx hy htr hbel h0 hi kk
theorem x_k {i1 i2 i3 d1 d2 d3 t s' t' : Nat} {o1 o2 o3 : Oper} {x y : Operand} {v : Value} {i : Int} {tr : List Nd} {w0 : World} {c1 c2 c3 : Bool} (e1 : all[i1]? = some o1 := by exact rfl) (h1 : o1.op = .indexAddr t x y := by exact rfl) (hd1 : o1.dst = some d1 := by exact rfl) (hg1 : gdB all ρ o1.guard = some c1 := by exact rfl) (hc1 : c1 = true := by exact rfl) (e2 : all[i2]? = some o2 := by exact rfl) (h2 : o2.op = .fieldAddr s' (.tmp d1) 0 := by exact rfl) (hd2 : o2.dst = some d2 := by exact rfl) (hg2 : ∀ p, gdB all ((d1, .pointer p) :: ρ) o2.guard = some c2 := by exact fun _ => rfl) (hc2 : c2 = true := by exact rfl) (e3 : all[i3]? = some o3 := by exact rfl) (h3 : o3.op = .load t' (.tmp d2) := by exact rfl) (hd3 : o3.dst = some d3 := by exact rfl) (hg3 : ∀ p q, gdB all ((d2, .pointer q) :: (d1, .pointer p) :: ρ) o3.guard = some c3 := by exact fun _ _ => rfl) (hc3 : c3 = true := by exact rfl) (ht : tyD P t = some (.slice s') := by exact rfl) (hs : tyS P s' = some 2 := by exact rfl) (hf : fieldOff P s' 0 = some (0, 1) := by exact rfl) (ha : tyAgg P t' = some false := by exact rfl) (hx : ev ρ x = some v := by exact rfl) (hy : ev ρ y = some (.int .i64 i) := by exact rfl) (htr : TreeM w0 v tr := by assumption) (hF : ∀ w, F w → Below w0.heap.size w0 w := by first | exact fun _ h => h | (intro _ h; exact Below.via (by assumption) h)) (h0 : 0 ≤ i := by omega) (hi : i < tr.length := by omega) (kk : ∀ A c p q, SlI w0 (.slice A (kid tr i).length c) (kid tr i) → OrdA P n ds all k Φ s F π (((L.set i1 true).set i2 true).set i3 true) ((d3, .slice A (kid tr i).length c) :: (d2, q) :: (d1, p) :: ρ)) : OrdA P n ds all k Φ s F ((i1, 1) :: (i2, 1) :: (i3, 2) :: π) L ρ := OrdA.rdK e1 h1 hd1 hg1 hc1 e2 h2 hd2 hg2 hc2 e3 h3 hd3 hg3 hc3 ht hs hf ha hx hy htr hF h0 hi kk
theorem x_w {i1 i2 i3 d1 d2 d3 t s' t' : Nat} {o1 o2 o3 : Oper} {x y : Operand} {v : Value} {i : Int} {tr : List Nd} {w0 : World} {c1 c2 c3 : Bool} (e1 : all[i1]? = some o1 := by exact rfl) (h1 : o1.op = .indexAddr t x y := by exact rfl) (hd1 : o1.dst = some d1 := by exact rfl) (hg1 : gdB all ρ o1.guard = some c1 := by exact rfl) (hc1 : c1 = true := by exact rfl) (e2 : all[i2]? = some o2 := by exact rfl) (h2 : o2.op = .fieldAddr s' (.tmp d1) 1 := by exact rfl) (hd2 : o2.dst = some d2 := by exact rfl) (hg2 : ∀ p, gdB all ((d1, .pointer p) :: ρ) o2.guard = some c2 := by exact fun _ => rfl) (hc2 : c2 = true := by exact rfl) (e3 : all[i3]? = some o3 := by exact rfl) (h3 : o3.op = .load t' (.tmp d2) := by exact rfl) (hd3 : o3.dst = some d3 := by exact rfl) (hg3 : ∀ p q, gdB all ((d2, .pointer q) :: (d1, .pointer p) :: ρ) o3.guard = some c3 := by exact fun _ _ => rfl) (hc3 : c3 = true := by exact rfl) (ht : tyD P t = some (.slice s') := by exact rfl) (hs : tyS P s' = some 2 := by exact rfl) (hf : fieldOff P s' 1 = some (1, 1) := by exact rfl) (ha : tyAgg P t' = some false := by exact rfl) (hx : ev ρ x = some v := by exact rfl) (hy : ev ρ y = some (.int .i64 i) := by exact rfl) (htr : TreeM w0 v tr := by assumption) (hF : ∀ w, F w → Below w0.heap.size w0 w := by first | exact fun _ h => h | (intro _ h; exact Below.via (by assumption) h)) (h0 : 0 ≤ i := by omega) (hi : i < tr.length := by omega) (kk : ∀ p q, OrdA P n ds all k Φ s F π (((L.set i1 true).set i2 true).set i3 true) ((d3, .int .i64 (wor tr i)) :: (d2, q) :: (d1, p) :: ρ)) : OrdA P n ds all k Φ s F ((i1, 1) :: (i2, 1) :: (i3, 2) :: π) L ρ := OrdA.rdW e1 h1 hd1 hg1 hc1 e2 h2 hd2 hg2 hc2 e3 h3 hd3 hg3 hc3 ht hs hf ha hx hy htr hF h0 hi kk
theorem x_s {i1 i2 d1 d2 t s' t' : Nat} {o1 o2 : Oper} {x y : Operand} {v : Value} {i : Int} {tr : List Nd} {w0 : World} {c1 c2 : Bool} (e1 : all[i1]? = some o1 := by exact rfl) (h1 : o1.op = .indexAddr t x y := by exact rfl) (hd1 : o1.dst = some d1 := by exact rfl) (hg1 : gdB all ρ o1.guard = some c1 := by exact rfl) (hc1 : c1 = true := by exact rfl) (e2 : all[i2]? = some o2 := by exact rfl) (h2 : o2.op = .load t' (.tmp d1) := by exact rfl) (hd2 : o2.dst = some d2 := by exact rfl) (hg2 : ∀ p, gdB all ((d1, .pointer p) :: ρ) o2.guard = some c2 := by exact fun _ => rfl) (hc2 : c2 = true := by exact rfl) (ht : tyD P t = some (.slice s') := by exact rfl) (hs : tyS P s' = some 2 := by exact rfl) (hs' : tyS P t' = some 2 := by exact rfl) (ha : tyAgg P t' = some true := by exact rfl) (hx : ev ρ x = some v := by exact rfl) (hy : ev ρ y = some (.int .i64 i) := by exact rfl) (htr : TreeM w0 v tr := by assumption) (hF : ∀ w, F w → Below w0.heap.size w0 w := by first | exact fun _ h => h | (intro _ h; exact Below.via (by assumption) h)) (h0 : 0 ≤ i := by omega) (hi : i < tr.length := by omega) (kk : ∀ A c p, SlI w0 (.slice A (kid tr i).length c) (kid tr i) → OrdA P n ds all k Φ s F π ((L.set i1 true).set i2 true) ((d2, .agg #[.slice A (kid tr i).length c, .int .i64 (wor tr i)]) :: (d1, p) :: ρ)) : OrdA P n ds all k Φ s F ((i1, 1) :: (i2, 2) :: π) L ρ := OrdA.rdN e1 h1 hd1 hg1 hc1 e2 h2 hd2 hg2 hc2 ht hs hs' ha hx hy htr hF h0 hi kk
theorem y_k {i1 i2 i3 d1 d2 d3 t s' t' : Nat} {o1 o2 o3 : Oper} {x y : Operand} {v : Value} {i : Int} {tr : List Nd} {w0 : World} {c1 c2 c3 : Bool} (e1 : all[i1]? = some o1 := by exact rfl) (h1 : o1.op = .indexAddr t x y := by exact rfl) (hd1 : o1.dst = some d1 := by exact rfl) (hg1 : gdB all ρ o1.guard = some c1 := by exact rfl) (hc1 : c1 = true := by exact rfl) (e2 : all[i2]? = some o2 := by exact rfl) (h2 : o2.op = .fieldAddr s' (.tmp d1) 0 := by exact rfl) (hd2 : o2.dst = some d2 := by exact rfl) (hg2 : ∀ p, gdB all ((d1, .pointer p) :: ρ) o2.guard = some c2 := by exact fun _ => rfl) (hc2 : c2 = true := by exact rfl) (e3 : all[i3]? = some o3 := by exact rfl) (h3 : o3.op = .load t' (.tmp d2) := by exact rfl) (hd3 : o3.dst = some d3 := by exact rfl) (hg3 : ∀ p q, gdB all ((d2, .pointer q) :: (d1, .pointer p) :: ρ) o3.guard = some c3 := by exact fun _ _ => rfl) (hc3 : c3 = true := by exact rfl) (ht : tyD P t = some (.slice s') := by exact rfl) (hs : tyS P s' = some 2 := by exact rfl) (hf : fieldOff P s' 0 = some (0, 1) := by exact rfl) (ha : tyAgg P t' = some false := by exact rfl) (hx : ev ρ x = some v := by exact rfl) (hy : ev ρ y = some (.int .i64 i) := by exact rfl) (htr : TreeM w0 v tr := by assumption) (hF : ∀ w, F w → Below w0.heap.size w0 w := by first | exact fun _ h => h | (intro _ h; exact Below.via (by assumption) h)) (h0 : 0 ≤ i := by omega) (hi : i < tr.length := by omega) (hΦ : ∀ c ρ w, ¬ Φ (.panic c) ρ w := by exact fun _ _ _ h => h) (kk : ∀ A c p q, SlI w0 (.slice A (kid tr i).length c) (kid tr i) → VW.Ord P n ds all k Φ s F π (((L.set i1 true).set i2 true).set i3 true) ((d3, .slice A (kid tr i).length c) :: (d2, q) :: (d1, p) :: ρ) w) : VW.Ord P n ds all k Φ s F ((i1, 1) :: (i2, 1) :: (i3, 2) :: π) L ρ w := VW.Ord.rdK e1 h1 hd1 hg1 hc1 e2 h2 hd2 hg2 hc2 e3 h3 hd3 hg3 hc3 ht hs hf ha hx hy htr hF h0 hi hΦ kk
theorem y_w {i1 i2 i3 d1 d2 d3 t s' t' : Nat} {o1 o2 o3 : Oper} {x y : Operand} {v : Value} {i : Int} {tr : List Nd} {w0 : World} {c1 c2 c3 : Bool} (e1 : all[i1]? = some o1 := by exact rfl) (h1 : o1.op = .indexAddr t x y := by exact rfl) (hd1 : o1.dst = some d1 := by exact rfl) (hg1 : gdB all ρ o1.guard = some c1 := by exact rfl) (hc1 : c1 = true := by exact rfl) (e2 : all[i2]? = some o2 := by exact rfl) (h2 : o2.op = .fieldAddr s' (.tmp d1) 1 := by exact rfl) (hd2 : o2.dst = some d2 := by exact rfl) (hg2 : ∀ p, gdB all ((d1, .pointer p) :: ρ) o2.guard = some c2 := by exact fun _ => rfl) (hc2 : c2 = true := by exact rfl) (e3 : all[i3]? = some o3 := by exact rfl) (h3 : o3.op = .load t' (.tmp d2) := by exact rfl) (hd3 : o3.dst = some d3 := by exact rfl) (hg3 : ∀ p q, gdB all ((d2, .pointer q) :: (d1, .pointer p) :: ρ) o3.guard = some c3 := by exact fun _ _ => rfl) (hc3 : c3 = true := by exact rfl) (ht : tyD P t = some (.slice s') := by exact rfl) (hs : tyS P s' = some 2 := by exact rfl) (hf : fieldOff P s' 1 = some (1, 1) := by exact rfl) (ha : tyAgg P t' = some false := by exact rfl) (hx : ev ρ x = some v := by exact rfl) (hy : ev ρ y = some (.int .i64 i) := by exact rfl) (htr : TreeM w0 v tr := by assumption) (hF : ∀ w, F w → Below w0.heap.size w0 w := by first | exact fun _ h => h | (intro _ h; exact Below.via (by assumption) h)) (h0 : 0 ≤ i := by omega) (hi : i < tr.length := by omega) (hΦ : ∀ c ρ w, ¬ Φ (.panic c) ρ w := by exact fun _ _ _ h => h) (kk : ∀ p q, VW.Ord P n ds all k Φ s F π (((L.set i1 true).set i2 true).set i3 true) ((d3, .int .i64 (wor tr i)) :: (d2, q) :: (d1, p) :: ρ) w) : VW.Ord P n ds all k Φ s F ((i1, 1) :: (i2, 1) :: (i3, 2) :: π) L ρ w := VW.Ord.rdW e1 h1 hd1 hg1 hc1 e2 h2 hd2 hg2 hc2 e3 h3 hd3 hg3 hc3 ht hs hf ha hx hy htr hF h0 hi hΦ kk
theorem y_s {i1 i2 d1 d2 t s' t' : Nat} {o1 o2 : Oper} {x y : Operand} {v : Value} {i : Int} {tr : List Nd} {w0 : World} {c1 c2 : Bool} (e1 : all[i1]? = some o1 := by exact rfl) (h1 : o1.op = .indexAddr t x y := by exact rfl) (hd1 : o1.dst = some d1 := by exact rfl) (hg1 : gdB all ρ o1.guard = some c1 := by exact rfl) (hc1 : c1 = true := by exact rfl) (e2 : all[i2]? = some o2 := by exact rfl) (h2 : o2.op = .load t' (.tmp d1) := by exact rfl) (hd2 : o2.dst = some d2 := by exact rfl) (hg2 : ∀ p, gdB all ((d1, .pointer p) :: ρ) o2.guard = some c2 := by exact fun _ => rfl) (hc2 : c2 = true := by exact rfl) (ht : tyD P t = some (.slice s') := by exact rfl) (hs : tyS P s' = some 2 := by exact rfl) (hs' : tyS P t' = some 2 := by exact rfl) (ha : tyAgg P t' = some true := by exact rfl) (hx : ev ρ x = some v := by exact rfl) (hy : ev ρ y = some (.int .i64 i) := by exact rfl) (htr : TreeM w0 v tr := by assumption) (hF : ∀ w, F w → Below w0.heap.size w0 w := by first | exact fun _ h => h | (intro _ h; exact Below.via (by assumption) h)) (h0 : 0 ≤ i := by omega) (hi : i < tr.length := by omega) (hΦ : ∀ c ρ w, ¬ Φ (.panic c) ρ w := by exact fun _ _ _ h => h) (kk : ∀ A c p, SlI w0 (.slice A (kid tr i).length c) (kid tr i) → VW.Ord P n ds all k Φ s F π ((L.set i1 true).set i2 true) ((d2, .agg #[.slice A (kid tr i).length c, .int .i64 (wor tr i)]) :: (d1, p) :: ρ) w) : VW.Ord P n ds all k Φ s F ((i1, 1) :: (i2, 2) :: π) L ρ w := VW.Ord.rdN e1 h1 hd1 hg1 hc1 e2 h2 hd2 hg2 hc2 ht hs hs' ha hx hy htr hF h0 hi hΦ kk
end
end Go.Proofs.Ytdiljpnfochndaa
namespace Go.Proofs.Ytdiljpnfochndaa
open Go Go.RowKit Go.Proofs.Ytdiljpnfochndaa.VW
open Go.Proofs.Ytdiljpnfochndaa.HP (Nd kid wor leafB rd evB gameOf gameOf_TF ValP far TF Dn k_)
attribute [local irreducible] W Ops OrdA VW.Ord
theorem leaf_c {w : World} {v : Value} {xs : List Int} {z : Value} (hv : SlI w v xs) (hz : z.oneCell' = true) : Calls Try.prog 64 #[.agg #[v, z]] w (Ret fun r w' => r = .bool ((xs.length : Int) == 0) ∧ Below w.heap.size w w') := by
  obtain ⟨A, c, rfl⟩ := Sl.sl hv
  refine calls_W (vs := [_]) Try.func64 rfl (by kernel_rfl) rfl ?_
  (repeat (first | with_reducible refine W.seq ?_ | with_reducible refine Ops.nil ?_ | with_reducible refine W.region ?_ | refine z_p (kk := ?_) | refine z_a (kk := ?_) | refine z_y (kk := ?_) | refine z_n (kk := ?_) | refine z_u (kk := ?_) | with_reducible refine W.skip ?_ | with_reducible refine W.endb ?_ | with_reducible refine W.block ?_ | refine W.exit rfl ?_ | refine z_l (kk := ?_) | refine z_f (kk := ?_) | refine z_M (kk := ?_) | refine z_m (kk := ?_) | refine z_e (kk := ?_) | refine z_E (kk := ?_) | refine z_d (kk := ?_)))
  refine Ops.box rfl rfl rfl rfl (fun w1 b hM => ?_)
  have hB : Blk w1 b #[.slice A xs.length c, z] 47 := hM.at_
  (repeat (first | with_reducible refine W.seq ?_ | with_reducible refine Ops.nil ?_ | with_reducible refine W.region ?_ | refine z_p (kk := ?_) | refine z_a (kk := ?_) | refine z_y (kk := ?_) | refine z_n (kk := ?_) | refine z_u (kk := ?_) | with_reducible refine W.skip ?_ | with_reducible refine W.endb ?_ | with_reducible refine W.block ?_ | refine W.exit rfl ?_ | refine z_l (kk := ?_) | refine z_f (kk := ?_) | refine z_M (kk := ?_) | refine z_m (kk := ?_) | refine z_e (kk := ?_) | refine z_E (kk := ?_) | refine z_d (kk := ?_)))
  exact W.fret rfl ⟨rfl, hM.kp.below (Nat.le_refl _) (fun _ _ e => e)⟩
set_option maxHeartbeats 2000000 in
theorem listed_c {w : World} {v sv : Value} {l : List Nd} {xs : List Int} (hTr : TreeM w v l) (hn : l.length ≤ 60) (hs : SlI w sv xs) :
    Calls Try.prog 24 #[v, sv] w (Ret fun r w' => r = .bool (decide (Listed l xs)) ∧ Below w.heap.size w w') := by
  obtain ⟨At, ct, rfl⟩ := hTr.sl
  have hxl := Sl.len hs
  obtain ⟨As, cs, rfl⟩ := Sl.sl hs
  refine calls_W (vs := [_, _]) Try.func24 rfl (by kernel_rfl) rfl ?_
  (repeat (first | with_reducible refine W.seq ?_ | with_reducible refine Ops.nil ?_ | with_reducible refine W.region ?_ | refine z_p (kk := ?_) | refine z_a (kk := ?_) | refine z_y (kk := ?_) | refine z_n (kk := ?_) | refine z_u (kk := ?_) | with_reducible refine W.skip ?_ | with_reducible refine W.endb ?_ | with_reducible refine W.block ?_ | refine W.exit rfl ?_ | refine z_l (kk := ?_) | refine z_f (kk := ?_) | refine z_M (kk := ?_) | refine z_m (kk := ?_) | refine z_e (kk := ?_) | refine z_E (kk := ?_) | refine z_d (kk := ?_)))
  refine W.loop (fun m ρ w3 => ∃ j : Nat, m = xs.length - j ∧ j ≤ xs.length ∧ ρ = [(0, .slice At l.length ct), (1, .slice As xs.length cs), (5, .int .i64 j)] ∧ Below w.heap.size w w3 ∧ ∀ k, k < j → okAt l xs k)
    ⟨_, _, ⟨0, rfl, Nat.zero_le _, rfl, Below.refl _ _, fun k hk => by omega⟩, (by repeat (first | exact trivial | refine And.intro rfl ?_))⟩ ?_
  rintro m ρ w3 ⟨j, rfl, hj, rfl, hb3, hok⟩
  (repeat (first | with_reducible refine W.seq ?_ | with_reducible refine Ops.nil ?_ | with_reducible refine W.region ?_ | refine z_p (kk := ?_) | refine z_a (kk := ?_) | refine z_y (kk := ?_) | refine z_n (kk := ?_) | refine z_u (kk := ?_) | with_reducible refine W.skip ?_ | with_reducible refine W.endb ?_ | with_reducible refine W.block ?_ | refine W.exit rfl ?_ | refine z_l (kk := ?_) | refine z_f (kk := ?_) | refine z_M (kk := ?_) | refine z_m (kk := ?_) | refine z_e (kk := ?_) | refine z_E (kk := ?_) | refine z_d (kk := ?_)))
  (first | refine W.condD rfl (fun hc => ?_) (fun hc => ?_) | refine W.condE rfl (fun hc => ?_) (fun hc => ?_) | refine W.condN rfl (fun hc => ?_) (fun hc => ?_) | refine W.cond rfl (fun hc => ?_) (fun hc => ?_))
  · have hlt : j < xs.length := by omega
    (repeat (first | with_reducible refine W.seq ?_ | with_reducible refine Ops.nil ?_ | with_reducible refine W.region ?_ | refine z_p (kk := ?_) | refine z_a (kk := ?_) | refine z_y (kk := ?_) | refine z_n (kk := ?_) | refine z_u (kk := ?_) | with_reducible refine W.skip ?_ | with_reducible refine W.endb ?_ | with_reducible refine W.block ?_ | refine W.exit rfl ?_ | refine z_l (kk := ?_) | refine z_f (kk := ?_) | refine z_M (kk := ?_) | refine z_m (kk := ?_) | refine z_e (kk := ?_) | refine z_E (kk := ?_) | refine z_d (kk := ?_)))
    by_cases hok1 : okAt l xs j
    · have hok1' := hok1
      obtain ⟨q1, q2, q3, q4⟩ := hok1'
      have q3' : (kid l (xs.getD j 0)).length = 0 := by simpa [leafB] using q3
      have q5 : 0 < j → xs.getD ((j : Int) - 1).toNat 0 < xs.getD j 0 := fun h => by have := q4 h; rwa [show ((j : Int) - 1).toNat = j - 1 by omega]
      refine W.ordA 99 [(0, 1), (1, 1), (2, 1), (3, 2), (4, 1), (5, 1), (6, 1), (7, 1), (8, 1), (9, 2), (10, 1), (11, 1), (12, 1), (13, 1), (14, 1), (15, 1), (16, 1), (17, 1), (18, 1), (19, 2), (20, 1), (21, 2), (22, 2), (23, 1), (24, 1), (25, 1), (26, 1), (27, 1), (28, 1), (29, 1), (30, 1), (31, 1), (32, 1), (33, 2), (34, 1), (35, 1), (36, 1), (37, 2), (38, 1), (39, 1), (40, 1)] rfl (by kernel_rfl) rfl (by kernel_rfl) (fun _ _ _ h => h) ?_
      by_cases hj0 : 0 < j
      · have := q5 hj0
        (repeat (first | refine x_p (kk := ?_) | refine x_n (kk := ?_) | refine x_a (kk := ?_) | refine x_l (kk := ?_) | refine x_M (kk := ?_) | refine x_m (kk := ?_) | refine x_e (kk := ?_) | refine x_E (kk := ?_) | refine x_T (kk := ?_) | refine x_F (kk := ?_) | refine x_I (kk := fun _ => ?_) | refine x_J (kk := fun _ => ?_) | refine x_K (kk := fun _ => ?_) | refine x_L (kk := fun _ => ?_) | refine x_k (kk := fun _ _ _ _ _ => ?_) | refine x_w (kk := fun _ _ => ?_) | refine x_s (kk := fun _ _ _ _ => ?_) | refine OrdA.call rfl rfl rfl rfl rfl rfl rfl (fun w' hw' => Calls.via hw' (leaf_c (Sl.below (by assumption) (Below.via (by assumption) hw')) rfl)) ?_ | refine x_t (kk := ?_) | refine x_f (kk := ?_)))
        refine OrdA.nil (fun w6 hb6 => ?_)
        refine W.condF rfl (by first | rfl | assumption | (simp only [bnf] <;> omega) | (simp only [*, bnf]; done) | fail) ?_
        (repeat (first | with_reducible refine W.seq ?_ | with_reducible refine Ops.nil ?_ | with_reducible refine W.region ?_ | refine z_p (kk := ?_) | refine z_a (kk := ?_) | refine z_y (kk := ?_) | refine z_n (kk := ?_) | refine z_u (kk := ?_) | with_reducible refine W.skip ?_ | with_reducible refine W.endb ?_ | with_reducible refine W.block ?_ | refine W.exit rfl ?_ | refine z_l (kk := ?_) | refine z_f (kk := ?_) | refine z_M (kk := ?_) | refine z_m (kk := ?_) | refine z_e (kk := ?_) | refine z_E (kk := ?_) | refine z_d (kk := ?_)))
        exact W.endl ⟨_, _, ⟨⟨j + 1, rfl, by omega, rfl, Below.via hb3 hb6, fun k hk => by rcases Nat.lt_succ_iff_lt_or_eq.1 hk with h | rfl; exact hok k h; exact hok1⟩, by omega⟩, (by repeat (first | exact trivial | refine And.intro rfl ?_))⟩
      · (repeat (first | refine x_p (kk := ?_) | refine x_n (kk := ?_) | refine x_a (kk := ?_) | refine x_l (kk := ?_) | refine x_M (kk := ?_) | refine x_m (kk := ?_) | refine x_e (kk := ?_) | refine x_E (kk := ?_) | refine x_T (kk := ?_) | refine x_F (kk := ?_) | refine x_I (kk := fun _ => ?_) | refine x_J (kk := fun _ => ?_) | refine x_K (kk := fun _ => ?_) | refine x_L (kk := fun _ => ?_) | refine x_k (kk := fun _ _ _ _ _ => ?_) | refine x_w (kk := fun _ _ => ?_) | refine x_s (kk := fun _ _ _ _ => ?_) | refine OrdA.call rfl rfl rfl rfl rfl rfl rfl (fun w' hw' => Calls.via hw' (leaf_c (Sl.below (by assumption) (Below.via (by assumption) hw')) rfl)) ?_ | refine x_t (kk := ?_) | refine x_f (kk := ?_)))
        refine OrdA.nil (fun w6 hb6 => ?_)
        refine W.condF rfl (by first | rfl | assumption | (simp only [bnf] <;> omega) | (simp only [*, bnf]; done) | fail) ?_
        (repeat (first | with_reducible refine W.seq ?_ | with_reducible refine Ops.nil ?_ | with_reducible refine W.region ?_ | refine z_p (kk := ?_) | refine z_a (kk := ?_) | refine z_y (kk := ?_) | refine z_n (kk := ?_) | refine z_u (kk := ?_) | with_reducible refine W.skip ?_ | with_reducible refine W.endb ?_ | with_reducible refine W.block ?_ | refine W.exit rfl ?_ | refine z_l (kk := ?_) | refine z_f (kk := ?_) | refine z_M (kk := ?_) | refine z_m (kk := ?_) | refine z_e (kk := ?_) | refine z_E (kk := ?_) | refine z_d (kk := ?_)))
        exact W.endl ⟨_, _, ⟨⟨j + 1, rfl, by omega, rfl, Below.via hb3 hb6, fun k hk => by rcases Nat.lt_succ_iff_lt_or_eq.1 hk with h | rfl; exact hok k h; exact hok1⟩, by omega⟩, (by repeat (first | exact trivial | refine And.intro rfl ?_))⟩
    · have hno : decide (Listed l xs) = false := decide_eq_false fun h => hok1 (h j hlt)
      refine W.ordA 99 [(0, 1), (1, 1), (2, 1), (3, 2), (4, 1), (5, 1), (6, 1), (7, 1), (8, 1), (9, 2), (10, 1), (11, 1), (12, 1), (13, 1), (14, 1), (15, 1), (16, 1), (17, 1), (18, 1), (19, 2), (20, 1), (21, 2), (22, 2), (23, 1), (24, 1), (25, 1), (26, 1), (27, 1), (28, 1), (29, 1), (30, 1), (31, 1), (32, 1), (33, 2), (34, 1), (35, 1), (36, 1), (37, 2), (38, 1), (39, 1), (40, 1)] rfl (by kernel_rfl) rfl (by kernel_rfl) (fun _ _ _ h => h) ?_
      by_cases q1 : xs.getD j 0 < 0
      · (repeat (first | refine x_p (kk := ?_) | refine x_n (kk := ?_) | refine x_a (kk := ?_) | refine x_l (kk := ?_) | refine x_M (kk := ?_) | refine x_m (kk := ?_) | refine x_e (kk := ?_) | refine x_E (kk := ?_) | refine x_T (kk := ?_) | refine x_F (kk := ?_) | refine x_I (kk := fun _ => ?_) | refine x_J (kk := fun _ => ?_) | refine x_K (kk := fun _ => ?_) | refine x_L (kk := fun _ => ?_) | refine x_k (kk := fun _ _ _ _ _ => ?_) | refine x_w (kk := fun _ _ => ?_) | refine x_s (kk := fun _ _ _ _ => ?_) | refine x_t (kk := ?_) | refine x_f (kk := ?_)))
        refine OrdA.nil (fun w6 hb6 => ?_)
        refine W.condT rfl (by first | rfl | assumption | (simp only [bnf] <;> omega) | (simp only [*, bnf]; done) | fail) ?_
        (repeat (first | with_reducible refine W.seq ?_ | with_reducible refine Ops.nil ?_ | with_reducible refine W.region ?_ | refine z_p (kk := ?_) | refine z_a (kk := ?_) | refine z_y (kk := ?_) | refine z_n (kk := ?_) | refine z_u (kk := ?_) | with_reducible refine W.skip ?_ | with_reducible refine W.endb ?_ | with_reducible refine W.block ?_ | refine W.exit rfl ?_ | refine z_l (kk := ?_) | refine z_f (kk := ?_) | refine z_M (kk := ?_) | refine z_m (kk := ?_) | refine z_e (kk := ?_) | refine z_E (kk := ?_) | refine z_d (kk := ?_)))
        exact W.fret rfl ⟨by rw [hno]; rfl, Below.via hb3 hb6⟩
      · by_cases q2 : xs.getD j 0 ≤ l.length - 1
        · by_cases q3 : (kid l (xs.getD j 0)).length = 0
          · have q3' : leafB l (xs.getD j 0) = true := by simpa [leafB] using q3
            have q4 : 0 < j ∧ xs.getD j 0 ≤ xs.getD (j - 1) 0 := by
              refine Classical.byContradiction fun h => hok1 ⟨by omega, by omega, q3', fun h0 => by omega⟩
            have q5 : xs.getD j 0 ≤ xs.getD ((j : Int) - 1).toNat 0 := by rw [show ((j : Int) - 1).toNat = j - 1 by omega]; exact q4.2
            have q6 := q4.1
            (repeat (first | refine x_p (kk := ?_) | refine x_n (kk := ?_) | refine x_a (kk := ?_) | refine x_l (kk := ?_) | refine x_M (kk := ?_) | refine x_m (kk := ?_) | refine x_e (kk := ?_) | refine x_E (kk := ?_) | refine x_T (kk := ?_) | refine x_F (kk := ?_) | refine x_I (kk := fun _ => ?_) | refine x_J (kk := fun _ => ?_) | refine x_K (kk := fun _ => ?_) | refine x_L (kk := fun _ => ?_) | refine x_k (kk := fun _ _ _ _ _ => ?_) | refine x_w (kk := fun _ _ => ?_) | refine x_s (kk := fun _ _ _ _ => ?_) | refine OrdA.call rfl rfl rfl rfl rfl rfl rfl (fun w' hw' => Calls.via hw' (leaf_c (Sl.below (by assumption) (Below.via (by assumption) hw')) rfl)) ?_ | refine x_t (kk := ?_) | refine x_f (kk := ?_)))
            refine OrdA.nil (fun w6 hb6 => ?_)
            refine W.condT rfl (by first | rfl | assumption | (simp only [bnf] <;> omega) | (simp only [*, bnf]; done) | fail) ?_
            (repeat (first | with_reducible refine W.seq ?_ | with_reducible refine Ops.nil ?_ | with_reducible refine W.region ?_ | refine z_p (kk := ?_) | refine z_a (kk := ?_) | refine z_y (kk := ?_) | refine z_n (kk := ?_) | refine z_u (kk := ?_) | with_reducible refine W.skip ?_ | with_reducible refine W.endb ?_ | with_reducible refine W.block ?_ | refine W.exit rfl ?_ | refine z_l (kk := ?_) | refine z_f (kk := ?_) | refine z_M (kk := ?_) | refine z_m (kk := ?_) | refine z_e (kk := ?_) | refine z_E (kk := ?_) | refine z_d (kk := ?_)))
            exact W.fret rfl ⟨by rw [hno]; rfl, Below.via hb3 hb6⟩
          · (repeat (first | refine x_p (kk := ?_) | refine x_n (kk := ?_) | refine x_a (kk := ?_) | refine x_l (kk := ?_) | refine x_M (kk := ?_) | refine x_m (kk := ?_) | refine x_e (kk := ?_) | refine x_E (kk := ?_) | refine x_T (kk := ?_) | refine x_F (kk := ?_) | refine x_I (kk := fun _ => ?_) | refine x_J (kk := fun _ => ?_) | refine x_K (kk := fun _ => ?_) | refine x_L (kk := fun _ => ?_) | refine x_k (kk := fun _ _ _ _ _ => ?_) | refine x_w (kk := fun _ _ => ?_) | refine x_s (kk := fun _ _ _ _ => ?_) | refine OrdA.call rfl rfl rfl rfl rfl rfl rfl (fun w' hw' => Calls.via hw' (leaf_c (Sl.below (by assumption) (Below.via (by assumption) hw')) rfl)) ?_ | refine x_t (kk := ?_) | refine x_f (kk := ?_)))
            refine OrdA.nil (fun w6 hb6 => ?_)
            refine W.condT rfl (by first | rfl | assumption | (simp only [bnf] <;> omega) | (simp only [*, bnf]; done) | fail) ?_
            (repeat (first | with_reducible refine W.seq ?_ | with_reducible refine Ops.nil ?_ | with_reducible refine W.region ?_ | refine z_p (kk := ?_) | refine z_a (kk := ?_) | refine z_y (kk := ?_) | refine z_n (kk := ?_) | refine z_u (kk := ?_) | with_reducible refine W.skip ?_ | with_reducible refine W.endb ?_ | with_reducible refine W.block ?_ | refine W.exit rfl ?_ | refine z_l (kk := ?_) | refine z_f (kk := ?_) | refine z_M (kk := ?_) | refine z_m (kk := ?_) | refine z_e (kk := ?_) | refine z_E (kk := ?_) | refine z_d (kk := ?_)))
            exact W.fret rfl ⟨by rw [hno]; rfl, Below.via hb3 hb6⟩
        · (repeat (first | refine x_p (kk := ?_) | refine x_n (kk := ?_) | refine x_a (kk := ?_) | refine x_l (kk := ?_) | refine x_M (kk := ?_) | refine x_m (kk := ?_) | refine x_e (kk := ?_) | refine x_E (kk := ?_) | refine x_T (kk := ?_) | refine x_F (kk := ?_) | refine x_I (kk := fun _ => ?_) | refine x_J (kk := fun _ => ?_) | refine x_K (kk := fun _ => ?_) | refine x_L (kk := fun _ => ?_) | refine x_k (kk := fun _ _ _ _ _ => ?_) | refine x_w (kk := fun _ _ => ?_) | refine x_s (kk := fun _ _ _ _ => ?_) | refine x_t (kk := ?_) | refine x_f (kk := ?_)))
          refine OrdA.nil (fun w6 hb6 => ?_)
          refine W.condT rfl (by first | rfl | assumption | (simp only [bnf] <;> omega) | (simp only [*, bnf]; done) | fail) ?_
          (repeat (first | with_reducible refine W.seq ?_ | with_reducible refine Ops.nil ?_ | with_reducible refine W.region ?_ | refine z_p (kk := ?_) | refine z_a (kk := ?_) | refine z_y (kk := ?_) | refine z_n (kk := ?_) | refine z_u (kk := ?_) | with_reducible refine W.skip ?_ | with_reducible refine W.endb ?_ | with_reducible refine W.block ?_ | refine W.exit rfl ?_ | refine z_l (kk := ?_) | refine z_f (kk := ?_) | refine z_M (kk := ?_) | refine z_m (kk := ?_) | refine z_e (kk := ?_) | refine z_E (kk := ?_) | refine z_d (kk := ?_)))
          exact W.fret rfl ⟨by rw [hno]; rfl, Below.via hb3 hb6⟩
  · have hlt : j = xs.length := by omega
    subst hlt
    (repeat (first | with_reducible refine W.seq ?_ | with_reducible refine Ops.nil ?_ | with_reducible refine W.region ?_ | refine z_p (kk := ?_) | refine z_a (kk := ?_) | refine z_y (kk := ?_) | refine z_n (kk := ?_) | refine z_u (kk := ?_) | with_reducible refine W.skip ?_ | with_reducible refine W.endb ?_ | with_reducible refine W.block ?_ | refine W.exit rfl ?_ | refine z_l (kk := ?_) | refine z_f (kk := ?_) | refine z_M (kk := ?_) | refine z_m (kk := ?_) | refine z_e (kk := ?_) | refine z_E (kk := ?_) | refine z_d (kk := ?_)))
    exact W.fret rfl ⟨by rw [decide_eq_true (show Listed l xs from hok)]; rfl, hb3⟩
end Go.Proofs.Ytdiljpnfochndaa
namespace Go.Proofs.Ytdiljpnfochndaa
open Go Go.RowKit Go.Proofs.Ytdiljpnfochndaa.VW
open Go.Proofs.Ytdiljpnfochndaa.HP (Nd kid wor leafB rd evB gameOf gameOf_TF ValP NV far TF Dn k_ maxL minL maxL_take minL_take maxL_one minL_one val_set RNeedP RN rn_set farR sumC)
attribute [local irreducible] W Ops OrdA VW.Ord
theorem getD_map_rd {xs vs : List Int} {j : Nat} (h : j < xs.length) : (xs.map (rd vs)).getD j 0 = rd vs (xs.getD j 0) := by
  simp [List.getD_eq_getElem?_getD, h]
/-- The value of a node behind j children. -/
def acc (l : List Nd) (dep : List Int) (os : List Int) (a0 : Int) (p j : Nat) : Int := if j = 0 then a0 else if evB dep p then maxL (((kid l p).map (rd os)).take j) else minL (((kid l p).map (rd os)).take j)
theorem acc_succ {l : List Nd} {dep os : List Int} {a0 : Int} {p j : Nat} (h : j < (kid l p).length) : acc l dep os a0 p (j + 1) = if j = 0 then rd os ((kid l p).getD j 0) else if evB dep p then max (acc l dep os a0 p j) (rd os ((kid l p).getD j 0)) else min (acc l dep os a0 p j) (rd os ((kid l p).getD j 0)) := by
  have hm : j < ((kid l p).map (rd os)).length := by simpa using h
  rw [← getD_map_rd h]
  unfold acc
  by_cases hj : j = 0
  · subst hj
    simp only [Nat.zero_add, if_true]
    rw [if_neg (by omega)]
    split
    · exact maxL_one _ hm
    · exact minL_one _ hm
  · rw [if_neg (by omega), if_neg hj, if_neg hj]
    split
    · exact maxL_take _ _ (by omega) hm
    · exact minL_take _ _ (by omega) hm
theorem acc_end {l : List Nd} {dep os : List Int} {wf : Int → Int} {p : Nat} : acc l dep os (wf p) p (kid l p).length = NV l dep wf os p := by
  unfold acc NV leafB
  by_cases h : (kid l p).length = 0
  · have h2 : (kid l p).isEmpty = true := by rw [List.length_eq_zero_iff.1 h]; rfl
    rw [if_pos h, if_pos h2]
  · have h2 : (kid l p).isEmpty = false := by cases hk : kid l p with | nil => rw [hk] at h; simp at h | cons a r => rfl
    rw [if_neg h, h2, List.take_of_length_le (by simp)]
    rfl
theorem rd_set_ne {os : List Int} {p : Nat} {x : Int} {c : Int} (h : (p : Int) < c) : rd (os.set p x) c = rd os c := by
  simp only [rd]
  exact Go.Proofs.Ytdiljpnfochndaa.HP.getD_set_ne (by omega)
set_option maxHeartbeats 2000000 in
theorem backed_c {w : World} {v wv : Value} {l : List Nd} {dep ws : List Int} (hTr : TreeM w v l) (hT : TF l dep) (hW : SlI w wv ws) (hwl : ws.length = l.length) :
    Calls Try.prog 63 #[v, wv] w (Ret fun r w' => ∃ vs : List Int, OI 3 (Value.int .i64) w w' r vs ∧ ValP l dep (fun i => ws.getD i.toNat 0) vs) := by
  obtain ⟨At, ct, rfl⟩ := hTr.sl
  obtain ⟨Aw, cw, rfl⟩ := Sl.sl hW
  have hn := hT.n60
  have hn1 := hT.n1
  refine calls_W (vs := [_, _]) Try.func63 rfl (by kernel_rfl) rfl ?_
  (repeat (first | with_reducible refine W.seq ?_ | with_reducible refine Ops.nil ?_ | with_reducible refine W.region ?_ | refine z_p (kk := ?_) | refine z_a (kk := ?_) | refine z_y (kk := ?_) | refine z_n (kk := ?_) | refine z_u (kk := ?_) | with_reducible refine W.skip ?_ | with_reducible refine W.endb ?_ | with_reducible refine W.block ?_ | refine W.exit rfl ?_ | refine z_l (kk := ?_) | refine z_f (kk := ?_) | refine z_M (kk := ?_) | refine z_m (kk := ?_) | refine z_e (kk := ?_) | refine z_E (kk := ?_) | refine z_d (kk := ?_) | refine z_I (kk := fun _ => ?_) | refine z_J (kk := fun _ => ?_) | refine z_K (kk := fun _ => ?_) | refine z_L (kk := fun _ => ?_) | refine z_T (kk := ?_) | refine z_F (kk := ?_) | refine z_k (kk := fun _ _ _ _ _ => ?_) | refine z_w (kk := fun _ _ => ?_) | refine z_s (kk := fun _ _ _ _ => ?_) | refine z_g (kk := ?_) | refine z_h (kk := ?_)))
  refine Ops.call rfl rfl rfl rfl rfl (even_c hTr hT) (fun r w1 hR => ?_)
  obtain ⟨bs, hE, hbl, hbv⟩ := hR
  have hb1 := hE.bel
  have hE1 : SlB w1 r bs := hE.sl
  obtain ⟨Ae, ce, rfl⟩ := Sl.sl hE1
  have hTr1 := hTr.below hb1
  have hW1 := Sl.below hW hb1
  clear hTr hW
  (repeat (first | with_reducible refine W.seq ?_ | with_reducible refine Ops.nil ?_ | with_reducible refine W.region ?_ | refine z_p (kk := ?_) | refine z_a (kk := ?_) | refine z_y (kk := ?_) | refine z_n (kk := ?_) | refine z_u (kk := ?_) | with_reducible refine W.skip ?_ | with_reducible refine W.endb ?_ | with_reducible refine W.block ?_ | refine W.exit rfl ?_ | refine z_l (kk := ?_) | refine z_f (kk := ?_) | refine z_M (kk := ?_) | refine z_m (kk := ?_) | refine z_e (kk := ?_) | refine z_E (kk := ?_) | refine z_d (kk := ?_) | refine z_I (kk := fun _ => ?_) | refine z_J (kk := fun _ => ?_) | refine z_K (kk := fun _ => ?_) | refine z_L (kk := fun _ => ?_) | refine z_T (kk := ?_) | refine z_F (kk := ?_) | refine z_k (kk := fun _ _ _ _ _ => ?_) | refine z_w (kk := fun _ _ => ?_) | refine z_s (kk := fun _ _ _ _ => ?_) | refine z_g (kk := ?_) | refine z_h (kk := ?_)))
  refine Ops.mkO (w0 := w1) (Value.int .i64) 0 rfl rfl rfl rfl rfl rfl rfl rfl rfl (by omega) rfl (Below.refl _ _) (fun w2 dr hO2 k2 _ => ?_)
  have hlr : (List.replicate l.length (0 : Int)).length = l.length := by simp
  generalize List.replicate l.length (0 : Int) = os2 at *
  (repeat (first | with_reducible refine W.seq ?_ | with_reducible refine Ops.nil ?_ | with_reducible refine W.region ?_ | refine z_p (kk := ?_) | refine z_a (kk := ?_) | refine z_y (kk := ?_) | refine z_n (kk := ?_) | refine z_u (kk := ?_) | with_reducible refine W.skip ?_ | with_reducible refine W.endb ?_ | with_reducible refine W.block ?_ | refine W.exit rfl ?_ | refine z_l (kk := ?_) | refine z_f (kk := ?_) | refine z_M (kk := ?_) | refine z_m (kk := ?_) | refine z_e (kk := ?_) | refine z_E (kk := ?_) | refine z_d (kk := ?_) | refine z_I (kk := fun _ => ?_) | refine z_J (kk := fun _ => ?_) | refine z_K (kk := fun _ => ?_) | refine z_L (kk := fun _ => ?_) | refine z_T (kk := ?_) | refine z_F (kk := ?_) | refine z_k (kk := fun _ _ _ _ _ => ?_) | refine z_w (kk := fun _ _ => ?_) | refine z_s (kk := fun _ _ _ _ => ?_) | refine z_g (kk := ?_) | refine z_h (kk := ?_)))
  refine W.loop (fun m ρ w3 => ∃ (q : Nat) (os : List Int), m = q ∧ q ≤ l.length ∧ ρ = [(0, .slice At l.length ct), (1, .slice Aw ws.length cw), (5, .slice Ae bs.length ce), (6, .slice (some ⟨dr, 0, none⟩) l.length l.length), (7, .int .i64 ((q : Int) - 1))] ∧ OI 3 (Value.int .i64) w1 w3 (.slice (some ⟨dr, 0, none⟩) l.length l.length) os ∧ os.length = l.length ∧ ∀ j : Nat, q ≤ j → j < l.length → os.getD j 0 = NV l dep (fun i => ws.getD i.toNat 0) os j)
    ⟨_, _, ⟨l.length, _, rfl, Nat.le_refl _, rfl, hO2, hlr, fun j h1 h2 => by omega⟩, (by repeat (first | exact trivial | refine And.intro rfl ?_))⟩ ?_
  clear hO2 hlr
  rintro m ρ w3 ⟨q, os, hm, hq, rfl, hO, hol, hv⟩
  subst m
  (repeat (first | with_reducible refine W.seq ?_ | with_reducible refine Ops.nil ?_ | with_reducible refine W.region ?_ | refine z_p (kk := ?_) | refine z_a (kk := ?_) | refine z_y (kk := ?_) | refine z_n (kk := ?_) | refine z_u (kk := ?_) | with_reducible refine W.skip ?_ | with_reducible refine W.endb ?_ | with_reducible refine W.block ?_ | refine W.exit rfl ?_ | refine z_l (kk := ?_) | refine z_f (kk := ?_) | refine z_M (kk := ?_) | refine z_m (kk := ?_) | refine z_e (kk := ?_) | refine z_E (kk := ?_) | refine z_d (kk := ?_) | refine z_I (kk := fun _ => ?_) | refine z_J (kk := fun _ => ?_) | refine z_K (kk := fun _ => ?_) | refine z_L (kk := fun _ => ?_) | refine z_T (kk := ?_) | refine z_F (kk := ?_) | refine z_k (kk := fun _ _ _ _ _ => ?_) | refine z_w (kk := fun _ _ => ?_) | refine z_s (kk := fun _ _ _ _ => ?_) | refine z_g (kk := ?_) | refine z_h (kk := ?_)))
  (first | refine W.condD rfl (fun hc => ?_) (fun hc => ?_) | refine W.condE rfl (fun hc => ?_) (fun hc => ?_) | refine W.condN rfl (fun hc => ?_) (fun hc => ?_) | refine W.cond rfl (fun hc => ?_) (fun hc => ?_))
  · obtain ⟨p, rfl⟩ : ∃ p, q = p + 1 := ⟨q - 1, by omega⟩
    have hp : p < l.length := by omega
    have hb3 := hO.bel
    rw [show ((p + 1 : Nat) : Int) - 1 = p by omega]
    have hev := hbv p hp
    (repeat (first | with_reducible refine W.seq ?_ | with_reducible refine Ops.nil ?_ | with_reducible refine W.region ?_ | refine z_p (kk := ?_) | refine z_a (kk := ?_) | refine z_y (kk := ?_) | refine z_n (kk := ?_) | refine z_u (kk := ?_) | with_reducible refine W.skip ?_ | with_reducible refine W.endb ?_ | with_reducible refine W.block ?_ | refine W.exit rfl ?_ | refine z_l (kk := ?_) | refine z_f (kk := ?_) | refine z_M (kk := ?_) | refine z_m (kk := ?_) | refine z_e (kk := ?_) | refine z_E (kk := ?_) | refine z_d (kk := ?_) | refine z_I (kk := fun _ => ?_) | refine z_J (kk := fun _ => ?_) | refine z_K (kk := fun _ => ?_) | refine z_L (kk := fun _ => ?_) | refine z_T (kk := ?_) | refine z_F (kk := ?_) | refine z_k (kk := fun _ _ _ _ _ => ?_) | refine z_w (kk := fun _ _ => ?_) | refine z_s (kk := fun _ _ _ _ => ?_) | refine z_g (kk := ?_) | refine z_h (kk := ?_)))
    refine Ops.wrO rfl rfl rfl rfl rfl rfl rfl rfl rfl rfl rfl rfl (by simp) rfl hO (by omega) (fun w4 _ hO4 _ _ => ?_)
    (repeat (first | with_reducible refine W.seq ?_ | with_reducible refine Ops.nil ?_ | with_reducible refine W.region ?_ | refine z_p (kk := ?_) | refine z_a (kk := ?_) | refine z_y (kk := ?_) | refine z_n (kk := ?_) | refine z_u (kk := ?_) | with_reducible refine W.skip ?_ | with_reducible refine W.endb ?_ | with_reducible refine W.block ?_ | refine W.exit rfl ?_ | refine z_l (kk := ?_) | refine z_f (kk := ?_) | refine z_M (kk := ?_) | refine z_m (kk := ?_) | refine z_e (kk := ?_) | refine z_E (kk := ?_) | refine z_d (kk := ?_) | refine z_I (kk := fun _ => ?_) | refine z_J (kk := fun _ => ?_) | refine z_K (kk := fun _ => ?_) | refine z_L (kk := fun _ => ?_) | refine z_T (kk := ?_) | refine z_F (kk := ?_) | refine z_k (kk := fun _ _ _ _ _ => ?_) | refine z_w (kk := fun _ _ => ?_) | refine z_s (kk := fun _ _ _ _ => ?_) | refine z_g (kk := ?_) | refine z_h (kk := ?_)))
    refine W.loop (fun m ρ w5 => ∃ (j : Nat) (a : Int), m = (kid l p).length - j ∧ j ≤ (kid l p).length ∧ ρ = [(0, .slice At l.length ct), (1, .slice Aw ws.length cw), (5, .slice Ae bs.length ce), (6, .slice (some ⟨dr, 0, none⟩) l.length l.length), (7, .int .i64 p), (8, .int .i64 j)] ∧ OI 3 (Value.int .i64) w1 w5 (.slice (some ⟨dr, 0, none⟩) l.length l.length) (os.set p a) ∧ a = acc l dep os (ws.getD p 0) p j)
      ⟨_, _, ⟨0, _, rfl, Nat.zero_le _, rfl, hO4, rfl⟩, (by repeat (first | exact trivial | refine And.intro rfl ?_))⟩ ?_
    clear hO4
    rintro m ρ w5 ⟨j, a, rfl, hj, rfl, hO5, ha⟩
    have hb5 := hO5.bel
    have hkl := hT.klen p hp
    have hosl : (os.set p a).length = l.length := by simp [hol]
    have hosp : (os.set p a).getD p 0 = a := Go.Proofs.Ytdiljpnfochndaa.HP.getD_set_eq (by omega)
    (repeat (first | with_reducible refine W.seq ?_ | with_reducible refine Ops.nil ?_ | with_reducible refine W.region ?_ | refine z_p (kk := ?_) | refine z_a (kk := ?_) | refine z_y (kk := ?_) | refine z_n (kk := ?_) | refine z_u (kk := ?_) | with_reducible refine W.skip ?_ | with_reducible refine W.endb ?_ | with_reducible refine W.block ?_ | refine W.exit rfl ?_ | refine z_l (kk := ?_) | refine z_f (kk := ?_) | refine z_M (kk := ?_) | refine z_m (kk := ?_) | refine z_e (kk := ?_) | refine z_E (kk := ?_) | refine z_d (kk := ?_) | refine z_I (kk := fun _ => ?_) | refine z_J (kk := fun _ => ?_) | refine z_K (kk := fun _ => ?_) | refine z_L (kk := fun _ => ?_) | refine z_T (kk := ?_) | refine z_F (kk := ?_) | refine z_k (kk := fun _ _ _ _ _ => ?_) | refine z_w (kk := fun _ _ => ?_) | refine z_s (kk := fun _ _ _ _ => ?_) | refine z_g (kk := ?_) | refine z_h (kk := ?_)))
    (first | refine W.condD rfl (fun hc => ?_) (fun hc => ?_) | refine W.condE rfl (fun hc => ?_) (fun hc => ?_) | refine W.condN rfl (fun hc => ?_) (fun hc => ?_) | refine W.cond rfl (fun hc => ?_) (fun hc => ?_))
    · have hjl : j < (kid l p).length := by omega
      have hkin := hT.kin p j hp hjl
      simp only [k_] at hkin
      have hrd := rd_set_ne (os := os) (x := a) hkin.1
      have hacc := acc_succ (dep := dep) (os := os) (a0 := ws.getD p 0) hjl
      have hrd' : (os.set p a).getD ((kid l p).getD j 0).toNat 0 = rd os ((kid l p).getD j 0) := hrd
      by_cases hj0 : j = 0
      · have hx : (os.set p a).getD ((kid l p).getD j 0).toNat 0 = acc l dep os (ws.getD p 0) p (j + 1) := by rw [hacc, if_pos hj0]; exact hrd
        (repeat (first | with_reducible refine W.seq ?_ | with_reducible refine Ops.nil ?_ | with_reducible refine W.region ?_ | refine z_p (kk := ?_) | refine z_a (kk := ?_) | refine z_y (kk := ?_) | refine z_n (kk := ?_) | refine z_u (kk := ?_) | with_reducible refine W.skip ?_ | with_reducible refine W.endb ?_ | with_reducible refine W.block ?_ | refine W.exit rfl ?_ | refine z_l (kk := ?_) | refine z_f (kk := ?_) | refine z_M (kk := ?_) | refine z_m (kk := ?_) | refine z_e (kk := ?_) | refine z_E (kk := ?_) | refine z_d (kk := ?_) | refine z_I (kk := fun _ => ?_) | refine z_J (kk := fun _ => ?_) | refine z_K (kk := fun _ => ?_) | refine z_L (kk := fun _ => ?_) | refine z_T (kk := ?_) | refine z_F (kk := ?_) | refine z_k (kk := fun _ _ _ _ _ => ?_) | refine z_w (kk := fun _ _ => ?_) | refine z_s (kk := fun _ _ _ _ => ?_) | refine z_g (kk := ?_) | refine z_h (kk := ?_)))
        refine W.condT rfl (by first | rfl | assumption | (simp only [bnf] <;> omega) | (simp only [*, bnf]; done) | fail) ?_
        (repeat (first | with_reducible refine W.seq ?_ | with_reducible refine Ops.nil ?_ | with_reducible refine W.region ?_ | refine z_p (kk := ?_) | refine z_a (kk := ?_) | refine z_y (kk := ?_) | refine z_n (kk := ?_) | refine z_u (kk := ?_) | with_reducible refine W.skip ?_ | with_reducible refine W.endb ?_ | with_reducible refine W.block ?_ | refine W.exit rfl ?_ | refine z_l (kk := ?_) | refine z_f (kk := ?_) | refine z_M (kk := ?_) | refine z_m (kk := ?_) | refine z_e (kk := ?_) | refine z_E (kk := ?_) | refine z_d (kk := ?_) | refine z_I (kk := fun _ => ?_) | refine z_J (kk := fun _ => ?_) | refine z_K (kk := fun _ => ?_) | refine z_L (kk := fun _ => ?_) | refine z_T (kk := ?_) | refine z_F (kk := ?_) | refine z_k (kk := fun _ _ _ _ _ => ?_) | refine z_w (kk := fun _ _ => ?_) | refine z_s (kk := fun _ _ _ _ => ?_) | refine z_g (kk := ?_) | refine z_h (kk := ?_)))
        refine Ops.wrO rfl rfl rfl rfl rfl rfl rfl rfl rfl rfl rfl rfl (by simp) rfl hO5 (by omega) (fun w6 _ hO6 _ _ => ?_)
        rw [List.set_set] at hO6
        (repeat (first | with_reducible refine W.seq ?_ | with_reducible refine Ops.nil ?_ | with_reducible refine W.region ?_ | refine z_p (kk := ?_) | refine z_a (kk := ?_) | refine z_y (kk := ?_) | refine z_n (kk := ?_) | refine z_u (kk := ?_) | with_reducible refine W.skip ?_ | with_reducible refine W.endb ?_ | with_reducible refine W.block ?_ | refine W.exit rfl ?_ | refine z_l (kk := ?_) | refine z_f (kk := ?_) | refine z_M (kk := ?_) | refine z_m (kk := ?_) | refine z_e (kk := ?_) | refine z_E (kk := ?_) | refine z_d (kk := ?_) | refine z_I (kk := fun _ => ?_) | refine z_J (kk := fun _ => ?_) | refine z_K (kk := fun _ => ?_) | refine z_L (kk := fun _ => ?_) | refine z_T (kk := ?_) | refine z_F (kk := ?_) | refine z_k (kk := fun _ _ _ _ _ => ?_) | refine z_w (kk := fun _ _ => ?_) | refine z_s (kk := fun _ _ _ _ => ?_) | refine z_g (kk := ?_) | refine z_h (kk := ?_)))
        exact W.endl ⟨_, _, ⟨⟨j + 1, _, rfl, by omega, rfl, hO6, hx⟩, by omega⟩, (by repeat (first | exact trivial | refine And.intro rfl ?_))⟩
      · rw [if_neg hj0] at hacc
        cases hed : evB dep p with
        | true =>
          rw [hed] at hev hacc
          rw [if_pos rfl, ← ha] at hacc
          by_cases hgt : rd os ((kid l p).getD j 0) > a
          · have hx : (os.set p a).getD ((kid l p).getD j 0).toNat 0 = acc l dep os (ws.getD p 0) p (j + 1) := by rw [hacc, hrd']; omega
            (repeat (first | with_reducible refine W.seq ?_ | with_reducible refine Ops.nil ?_ | with_reducible refine W.region ?_ | refine z_p (kk := ?_) | refine z_a (kk := ?_) | refine z_y (kk := ?_) | refine z_n (kk := ?_) | refine z_u (kk := ?_) | with_reducible refine W.skip ?_ | with_reducible refine W.endb ?_ | with_reducible refine W.block ?_ | refine W.exit rfl ?_ | refine z_l (kk := ?_) | refine z_f (kk := ?_) | refine z_M (kk := ?_) | refine z_m (kk := ?_) | refine z_e (kk := ?_) | refine z_E (kk := ?_) | refine z_d (kk := ?_) | refine z_I (kk := fun _ => ?_) | refine z_J (kk := fun _ => ?_) | refine z_K (kk := fun _ => ?_) | refine z_L (kk := fun _ => ?_) | refine z_T (kk := ?_) | refine z_F (kk := ?_) | refine z_k (kk := fun _ _ _ _ _ => ?_) | refine z_w (kk := fun _ _ => ?_) | refine z_s (kk := fun _ _ _ _ => ?_) | refine z_g (kk := ?_) | refine z_h (kk := ?_)))
            refine W.condT rfl (by first | rfl | assumption | (simp only [bnf] <;> omega) | (simp only [*, bnf]; done) | fail) ?_
            (repeat (first | with_reducible refine W.seq ?_ | with_reducible refine Ops.nil ?_ | with_reducible refine W.region ?_ | refine z_p (kk := ?_) | refine z_a (kk := ?_) | refine z_y (kk := ?_) | refine z_n (kk := ?_) | refine z_u (kk := ?_) | with_reducible refine W.skip ?_ | with_reducible refine W.endb ?_ | with_reducible refine W.block ?_ | refine W.exit rfl ?_ | refine z_l (kk := ?_) | refine z_f (kk := ?_) | refine z_M (kk := ?_) | refine z_m (kk := ?_) | refine z_e (kk := ?_) | refine z_E (kk := ?_) | refine z_d (kk := ?_) | refine z_I (kk := fun _ => ?_) | refine z_J (kk := fun _ => ?_) | refine z_K (kk := fun _ => ?_) | refine z_L (kk := fun _ => ?_) | refine z_T (kk := ?_) | refine z_F (kk := ?_) | refine z_k (kk := fun _ _ _ _ _ => ?_) | refine z_w (kk := fun _ _ => ?_) | refine z_s (kk := fun _ _ _ _ => ?_) | refine z_g (kk := ?_) | refine z_h (kk := ?_)))
            refine Ops.wrO rfl rfl rfl rfl rfl rfl rfl rfl rfl rfl rfl rfl (by simp) rfl hO5 (by omega) (fun w6 _ hO6 _ _ => ?_)
            rw [List.set_set] at hO6
            (repeat (first | with_reducible refine W.seq ?_ | with_reducible refine Ops.nil ?_ | with_reducible refine W.region ?_ | refine z_p (kk := ?_) | refine z_a (kk := ?_) | refine z_y (kk := ?_) | refine z_n (kk := ?_) | refine z_u (kk := ?_) | with_reducible refine W.skip ?_ | with_reducible refine W.endb ?_ | with_reducible refine W.block ?_ | refine W.exit rfl ?_ | refine z_l (kk := ?_) | refine z_f (kk := ?_) | refine z_M (kk := ?_) | refine z_m (kk := ?_) | refine z_e (kk := ?_) | refine z_E (kk := ?_) | refine z_d (kk := ?_) | refine z_I (kk := fun _ => ?_) | refine z_J (kk := fun _ => ?_) | refine z_K (kk := fun _ => ?_) | refine z_L (kk := fun _ => ?_) | refine z_T (kk := ?_) | refine z_F (kk := ?_) | refine z_k (kk := fun _ _ _ _ _ => ?_) | refine z_w (kk := fun _ _ => ?_) | refine z_s (kk := fun _ _ _ _ => ?_) | refine z_g (kk := ?_) | refine z_h (kk := ?_)))
            exact W.endl ⟨_, _, ⟨⟨j + 1, _, rfl, by omega, rfl, hO6, hx⟩, by omega⟩, (by repeat (first | exact trivial | refine And.intro rfl ?_))⟩
          · have hx : a = acc l dep os (ws.getD p 0) p (j + 1) := by rw [hacc]; omega
            (repeat (first | with_reducible refine W.seq ?_ | with_reducible refine Ops.nil ?_ | with_reducible refine W.region ?_ | refine z_p (kk := ?_) | refine z_a (kk := ?_) | refine z_y (kk := ?_) | refine z_n (kk := ?_) | refine z_u (kk := ?_) | with_reducible refine W.skip ?_ | with_reducible refine W.endb ?_ | with_reducible refine W.block ?_ | refine W.exit rfl ?_ | refine z_l (kk := ?_) | refine z_f (kk := ?_) | refine z_M (kk := ?_) | refine z_m (kk := ?_) | refine z_e (kk := ?_) | refine z_E (kk := ?_) | refine z_d (kk := ?_) | refine z_I (kk := fun _ => ?_) | refine z_J (kk := fun _ => ?_) | refine z_K (kk := fun _ => ?_) | refine z_L (kk := fun _ => ?_) | refine z_T (kk := ?_) | refine z_F (kk := ?_) | refine z_k (kk := fun _ _ _ _ _ => ?_) | refine z_w (kk := fun _ _ => ?_) | refine z_s (kk := fun _ _ _ _ => ?_) | refine z_g (kk := ?_) | refine z_h (kk := ?_)))
            refine W.condF rfl (by first | rfl | assumption | (simp only [bnf] <;> omega) | (simp only [*, bnf]; done) | fail) ?_
            (repeat (first | with_reducible refine W.seq ?_ | with_reducible refine Ops.nil ?_ | with_reducible refine W.region ?_ | refine z_p (kk := ?_) | refine z_a (kk := ?_) | refine z_y (kk := ?_) | refine z_n (kk := ?_) | refine z_u (kk := ?_) | with_reducible refine W.skip ?_ | with_reducible refine W.endb ?_ | with_reducible refine W.block ?_ | refine W.exit rfl ?_ | refine z_l (kk := ?_) | refine z_f (kk := ?_) | refine z_M (kk := ?_) | refine z_m (kk := ?_) | refine z_e (kk := ?_) | refine z_E (kk := ?_) | refine z_d (kk := ?_) | refine z_I (kk := fun _ => ?_) | refine z_J (kk := fun _ => ?_) | refine z_K (kk := fun _ => ?_) | refine z_L (kk := fun _ => ?_) | refine z_T (kk := ?_) | refine z_F (kk := ?_) | refine z_k (kk := fun _ _ _ _ _ => ?_) | refine z_w (kk := fun _ _ => ?_) | refine z_s (kk := fun _ _ _ _ => ?_) | refine z_g (kk := ?_) | refine z_h (kk := ?_)))
            exact W.endl ⟨_, _, ⟨⟨j + 1, _, rfl, by omega, rfl, hO5, hx⟩, by omega⟩, (by repeat (first | exact trivial | refine And.intro rfl ?_))⟩
        | false =>
          rw [hed] at hev hacc
          rw [if_neg (by simp), ← ha] at hacc
          by_cases hgt : rd os ((kid l p).getD j 0) < a
          · have hx : (os.set p a).getD ((kid l p).getD j 0).toNat 0 = acc l dep os (ws.getD p 0) p (j + 1) := by rw [hacc, hrd']; omega
            (repeat (first | with_reducible refine W.seq ?_ | with_reducible refine Ops.nil ?_ | with_reducible refine W.region ?_ | refine z_p (kk := ?_) | refine z_a (kk := ?_) | refine z_y (kk := ?_) | refine z_n (kk := ?_) | refine z_u (kk := ?_) | with_reducible refine W.skip ?_ | with_reducible refine W.endb ?_ | with_reducible refine W.block ?_ | refine W.exit rfl ?_ | refine z_l (kk := ?_) | refine z_f (kk := ?_) | refine z_M (kk := ?_) | refine z_m (kk := ?_) | refine z_e (kk := ?_) | refine z_E (kk := ?_) | refine z_d (kk := ?_) | refine z_I (kk := fun _ => ?_) | refine z_J (kk := fun _ => ?_) | refine z_K (kk := fun _ => ?_) | refine z_L (kk := fun _ => ?_) | refine z_T (kk := ?_) | refine z_F (kk := ?_) | refine z_k (kk := fun _ _ _ _ _ => ?_) | refine z_w (kk := fun _ _ => ?_) | refine z_s (kk := fun _ _ _ _ => ?_) | refine z_g (kk := ?_) | refine z_h (kk := ?_)))
            refine W.condT rfl (by first | rfl | assumption | (simp only [bnf] <;> omega) | (simp only [*, bnf]; done) | fail) ?_
            (repeat (first | with_reducible refine W.seq ?_ | with_reducible refine Ops.nil ?_ | with_reducible refine W.region ?_ | refine z_p (kk := ?_) | refine z_a (kk := ?_) | refine z_y (kk := ?_) | refine z_n (kk := ?_) | refine z_u (kk := ?_) | with_reducible refine W.skip ?_ | with_reducible refine W.endb ?_ | with_reducible refine W.block ?_ | refine W.exit rfl ?_ | refine z_l (kk := ?_) | refine z_f (kk := ?_) | refine z_M (kk := ?_) | refine z_m (kk := ?_) | refine z_e (kk := ?_) | refine z_E (kk := ?_) | refine z_d (kk := ?_) | refine z_I (kk := fun _ => ?_) | refine z_J (kk := fun _ => ?_) | refine z_K (kk := fun _ => ?_) | refine z_L (kk := fun _ => ?_) | refine z_T (kk := ?_) | refine z_F (kk := ?_) | refine z_k (kk := fun _ _ _ _ _ => ?_) | refine z_w (kk := fun _ _ => ?_) | refine z_s (kk := fun _ _ _ _ => ?_) | refine z_g (kk := ?_) | refine z_h (kk := ?_)))
            refine Ops.wrO rfl rfl rfl rfl rfl rfl rfl rfl rfl rfl rfl rfl (by simp) rfl hO5 (by omega) (fun w6 _ hO6 _ _ => ?_)
            rw [List.set_set] at hO6
            (repeat (first | with_reducible refine W.seq ?_ | with_reducible refine Ops.nil ?_ | with_reducible refine W.region ?_ | refine z_p (kk := ?_) | refine z_a (kk := ?_) | refine z_y (kk := ?_) | refine z_n (kk := ?_) | refine z_u (kk := ?_) | with_reducible refine W.skip ?_ | with_reducible refine W.endb ?_ | with_reducible refine W.block ?_ | refine W.exit rfl ?_ | refine z_l (kk := ?_) | refine z_f (kk := ?_) | refine z_M (kk := ?_) | refine z_m (kk := ?_) | refine z_e (kk := ?_) | refine z_E (kk := ?_) | refine z_d (kk := ?_) | refine z_I (kk := fun _ => ?_) | refine z_J (kk := fun _ => ?_) | refine z_K (kk := fun _ => ?_) | refine z_L (kk := fun _ => ?_) | refine z_T (kk := ?_) | refine z_F (kk := ?_) | refine z_k (kk := fun _ _ _ _ _ => ?_) | refine z_w (kk := fun _ _ => ?_) | refine z_s (kk := fun _ _ _ _ => ?_) | refine z_g (kk := ?_) | refine z_h (kk := ?_)))
            exact W.endl ⟨_, _, ⟨⟨j + 1, _, rfl, by omega, rfl, hO6, hx⟩, by omega⟩, (by repeat (first | exact trivial | refine And.intro rfl ?_))⟩
          · have hx : a = acc l dep os (ws.getD p 0) p (j + 1) := by rw [hacc]; omega
            (repeat (first | with_reducible refine W.seq ?_ | with_reducible refine Ops.nil ?_ | with_reducible refine W.region ?_ | refine z_p (kk := ?_) | refine z_a (kk := ?_) | refine z_y (kk := ?_) | refine z_n (kk := ?_) | refine z_u (kk := ?_) | with_reducible refine W.skip ?_ | with_reducible refine W.endb ?_ | with_reducible refine W.block ?_ | refine W.exit rfl ?_ | refine z_l (kk := ?_) | refine z_f (kk := ?_) | refine z_M (kk := ?_) | refine z_m (kk := ?_) | refine z_e (kk := ?_) | refine z_E (kk := ?_) | refine z_d (kk := ?_) | refine z_I (kk := fun _ => ?_) | refine z_J (kk := fun _ => ?_) | refine z_K (kk := fun _ => ?_) | refine z_L (kk := fun _ => ?_) | refine z_T (kk := ?_) | refine z_F (kk := ?_) | refine z_k (kk := fun _ _ _ _ _ => ?_) | refine z_w (kk := fun _ _ => ?_) | refine z_s (kk := fun _ _ _ _ => ?_) | refine z_g (kk := ?_) | refine z_h (kk := ?_)))
            refine W.condF rfl (by first | rfl | assumption | (simp only [bnf] <;> omega) | (simp only [*, bnf]; done) | fail) ?_
            (repeat (first | with_reducible refine W.seq ?_ | with_reducible refine Ops.nil ?_ | with_reducible refine W.region ?_ | refine z_p (kk := ?_) | refine z_a (kk := ?_) | refine z_y (kk := ?_) | refine z_n (kk := ?_) | refine z_u (kk := ?_) | with_reducible refine W.skip ?_ | with_reducible refine W.endb ?_ | with_reducible refine W.block ?_ | refine W.exit rfl ?_ | refine z_l (kk := ?_) | refine z_f (kk := ?_) | refine z_M (kk := ?_) | refine z_m (kk := ?_) | refine z_e (kk := ?_) | refine z_E (kk := ?_) | refine z_d (kk := ?_) | refine z_I (kk := fun _ => ?_) | refine z_J (kk := fun _ => ?_) | refine z_K (kk := fun _ => ?_) | refine z_L (kk := fun _ => ?_) | refine z_T (kk := ?_) | refine z_F (kk := ?_) | refine z_k (kk := fun _ _ _ _ _ => ?_) | refine z_w (kk := fun _ _ => ?_) | refine z_s (kk := fun _ _ _ _ => ?_) | refine z_g (kk := ?_) | refine z_h (kk := ?_)))
            exact W.endl ⟨_, _, ⟨⟨j + 1, _, rfl, by omega, rfl, hO5, hx⟩, by omega⟩, (by repeat (first | exact trivial | refine And.intro rfl ?_))⟩
    · have hjl : j = (kid l p).length := by omega
      subst hjl
      have hval := val_set hT hp hol (x := a) (ha.trans (acc_end (wf := fun i => ws.getD i.toNat 0))) hv
      (repeat (first | with_reducible refine W.seq ?_ | with_reducible refine Ops.nil ?_ | with_reducible refine W.region ?_ | refine z_p (kk := ?_) | refine z_a (kk := ?_) | refine z_y (kk := ?_) | refine z_n (kk := ?_) | refine z_u (kk := ?_) | with_reducible refine W.skip ?_ | with_reducible refine W.endb ?_ | with_reducible refine W.block ?_ | refine W.exit rfl ?_ | refine z_l (kk := ?_) | refine z_f (kk := ?_) | refine z_M (kk := ?_) | refine z_m (kk := ?_) | refine z_e (kk := ?_) | refine z_E (kk := ?_) | refine z_d (kk := ?_) | refine z_I (kk := fun _ => ?_) | refine z_J (kk := fun _ => ?_) | refine z_K (kk := fun _ => ?_) | refine z_L (kk := fun _ => ?_) | refine z_T (kk := ?_) | refine z_F (kk := ?_) | refine z_k (kk := fun _ _ _ _ _ => ?_) | refine z_w (kk := fun _ _ => ?_) | refine z_s (kk := fun _ _ _ _ => ?_) | refine z_g (kk := ?_) | refine z_h (kk := ?_)))
      refine W.endl ⟨_, _, ⟨⟨p, _, rfl, by omega, rfl, hO5, hosl, hval⟩, by omega⟩, (by repeat (first | exact trivial | refine And.intro rfl ?_))⟩
  · have : q = 0 := by omega
    subst this
    (repeat (first | with_reducible refine W.seq ?_ | with_reducible refine Ops.nil ?_ | with_reducible refine W.region ?_ | refine z_p (kk := ?_) | refine z_a (kk := ?_) | refine z_y (kk := ?_) | refine z_n (kk := ?_) | refine z_u (kk := ?_) | with_reducible refine W.skip ?_ | with_reducible refine W.endb ?_ | with_reducible refine W.block ?_ | refine W.exit rfl ?_ | refine z_l (kk := ?_) | refine z_f (kk := ?_) | refine z_M (kk := ?_) | refine z_m (kk := ?_) | refine z_e (kk := ?_) | refine z_E (kk := ?_) | refine z_d (kk := ?_) | refine z_I (kk := fun _ => ?_) | refine z_J (kk := fun _ => ?_) | refine z_K (kk := fun _ => ?_) | refine z_L (kk := fun _ => ?_) | refine z_T (kk := ?_) | refine z_F (kk := ?_) | refine z_k (kk := fun _ _ _ _ _ => ?_) | refine z_w (kk := fun _ _ => ?_) | refine z_s (kk := fun _ _ _ _ => ?_) | refine z_g (kk := ?_) | refine z_h (kk := ?_)))
    exact W.fret rfl ⟨os, hO.up hb1, hol, fun j hj => hv j (by omega) hj⟩
theorem rep_getD {n i : Nat} {x : Int} (h : i < n) : (List.replicate n x).getD i 0 = x := by simp [List.getD_eq_getElem?_getD, h]
theorem valP_congr {l : List Nd} {dep : List Int} {f g : Int → Int} {vs : List Int} (h : ValP l dep f vs) (e : ∀ j : Nat, j < l.length → leafB l j = true → f j = g j) : ValP l dep g vs :=
  ⟨h.len, fun j hj => by
    rw [h.at_ j hj]
    unfold NV
    split
    · rename_i hl; exact e j hj hl
    · rfl⟩
end Go.Proofs.Ytdiljpnfochndaa
/- Values in bounds; and that there are values. -/
namespace Go.Proofs.Ytdiljpnfochndaa.HP
theorem val_bd {l : List Nd} {dep : List Int} (hT : TF l dep) {wf : Int → Int} {vs : List Int} (hv : ValP l dep wf vs) {lo hi : Int} (h : ∀ i : Nat, i < l.length → leafB l i = true → lo ≤ wf i ∧ wf i ≤ hi) : ∀ j : Nat, j < l.length → lo ≤ vs.getD j 0 ∧ vs.getD j 0 ≤ hi := by
  refine tree_ind hT (Q := fun j => lo ≤ vs.getD j 0 ∧ vs.getD j 0 ≤ hi) fun j hj hk => ?_
  have kD : ∀ x ∈ kid l j, lo ≤ rd vs x ∧ rd vs x ≤ hi := fun x hx => by obtain ⟨i, rfl, hi, h⟩ := hk x hx; exact h
  rw [hv.at_ j hj]
  unfold NV
  by_cases hl : leafB l j = true
  · rw [if_pos hl]; exact h j hj hl
  · have hne := leaf_ne hl
    obtain ⟨c, hc⟩ := List.exists_mem_of_ne_nil _ hne
    rw [if_neg hl]
    by_cases he : evB dep j = true
    · rw [if_pos he, maxL_ge hne, maxL_le hne]
      exact ⟨⟨c, hc, (kD c hc).1⟩, fun x hx => (kD x hx).2⟩
    · rw [if_neg he, minL_ge hne, minL_le hne]
      exact ⟨fun x hx => (kD x hx).1, ⟨c, hc, (kD c hc).2⟩⟩
theorem val_ex {l : List Nd} {dep : List Int} (hT : TF l dep) (wf : Int → Int) : ∃ vs, ValP l dep wf vs := by
  have key : ∀ d q : Nat, l.length - q = d → q ≤ l.length → ∃ os : List Int, os.length = l.length ∧ ∀ j : Nat, q ≤ j → j < l.length → os.getD j 0 = NV l dep wf os j := by
    intro d
    induction d with
    | zero => intro q hd hq; exact ⟨List.replicate l.length 0, by simp, fun j h1 h2 => by omega⟩
    | succ d ih =>
      intro q hd hq
      obtain ⟨os, h1, h2⟩ := ih (q + 1) (by omega) (by omega)
      exact ⟨os.set q (NV l dep wf os q), by simp [h1], val_set hT (by omega) h1 rfl h2⟩
  obtain ⟨os, h1, h2⟩ := key _ 0 rfl (Nat.zero_le _)
  exact ⟨os, h1, fun j hj => h2 j (Nat.zero_le _) hj⟩
theorem wor_bd {l : List Nd} {dep : List Int} (hT : TF l dep) {vs : List Int} (hv : ValP l dep (wor l) vs) : -100 ≤ vs.getD 0 0 ∧ vs.getD 0 0 ≤ 100 :=
  val_bd hT hv (fun i hi _ => ⟨(hT.wor i hi).1, (hT.wor i hi).2.1⟩) 0 (by have := hT.n1; omega)
end Go.Proofs.Ytdiljpnfochndaa.HP
/- The line of best moves. -/
namespace Go.Proofs.Ytdiljpnfochndaa.HP
def bestM' (vs : List Int) (x : Int) : List Int → Int
  | [] => -1
  | c :: r => if rd vs c = x then c else bestM' vs x r
theorem bestM_mem {vs : List Int} {x : Int} : ∀ {cs : List Int}, (∃ c ∈ cs, rd vs c = x) → bestM' vs x cs ∈ cs ∧ rd vs (bestM' vs x cs) = x
  | [], ⟨c, hc, _⟩ => by simp at hc
  | c :: r, ⟨d, hd, he⟩ => by
    simp only [bestM']
    split
    · rename_i h; exact ⟨by simp, h⟩
    · rename_i h
      have := bestM_mem (cs := r) ⟨d, by rcases List.mem_cons.1 hd with rfl | hd; exact absurd he h; exact hd, he⟩
      exact ⟨by simp [this.1], this.2⟩
theorem maxL_mem {cs : List Int} {g : Int → Int} (h : cs ≠ []) : ∃ c ∈ cs, g c = maxL (cs.map g) := by
  obtain ⟨c, hc, h1⟩ := (maxL_ge (g := g) (b := maxL (cs.map g)) h).1 (Int.le_refl _)
  exact ⟨c, hc, Int.le_antisymm ((maxL_le h).1 (Int.le_refl _) c hc) h1⟩
theorem minL_mem {cs : List Int} {g : Int → Int} (h : cs ≠ []) : ∃ c ∈ cs, g c = minL (cs.map g) := by
  obtain ⟨c, hc, h1⟩ := (minL_le (g := g) (b := minL (cs.map g)) h).1 (Int.le_refl _)
  exact ⟨c, hc, Int.le_antisymm h1 ((minL_ge h).1 (Int.le_refl _) c hc)⟩
theorem val_att {l : List Nd} {dep : List Int} {wf : Int → Int} {vs : List Int} (hv : ValP l dep wf vs) {i : Nat} (hi : i < l.length) (hl : leafB l i = false) : ∃ c ∈ kid l i, rd vs c = rd vs i := by
  have hne : kid l i ≠ [] := leaf_ne (by rw [hl]; simp)
  have h := hv.at_ i hi
  unfold NV at h
  rw [hl] at h
  simp only [Bool.false_eq_true, if_false] at h
  show ∃ c ∈ kid l i, rd vs c = vs.getD (i : Int).toNat 0
  rw [Int.toNat_natCast, h]
  split
  · exact maxL_mem hne
  · exact minL_mem hne
/-- The k-th node of the line. -/
def lineN (l : List Nd) (vs : List Int) : Nat → Int
  | 0 => 0
  | k + 1 => bestM' vs (rd vs (lineN l vs k)) (kid l (lineN l vs k))
def LineS (l : List Nd) (vs out : List Int) : Prop := ∃ k, out = (List.range (k + 1)).map (lineN l vs) ∧ (∀ j, j < k → leafB l (lineN l vs j) = false) ∧ leafB l (lineN l vs k) = true
theorem LineS.uniq {l : List Nd} {vs a b : List Int} (ha : LineS l vs a) (hb : LineS l vs b) : a = b := by
  obtain ⟨k, rfl, h1, h2⟩ := ha
  obtain ⟨m, rfl, h3, h4⟩ := hb
  rcases Nat.lt_trichotomy k m with h | h | h
  · rw [h3 k h] at h2; cases h2
  · rw [h]
  · rw [h1 m h] at h4; cases h4
theorem line_step {l : List Nd} {dep : List Int} {wf : Int → Int} {vs : List Int} (hT : TF l dep) (hv : ValP l dep wf vs) {k : Nat} {i : Nat} (hk : lineN l vs k = i) (hi : i < l.length) (hl : leafB l i = false) :
    ∃ j : Nat, lineN l vs (k + 1) = j ∧ i < j ∧ j < l.length ∧ vs.getD j 0 = vs.getD i 0 := by
  have h := bestM_mem (val_att hv hi hl)
  obtain ⟨h1, h2⟩ := mem_kid hT hi h.1
  refine ⟨(bestM' vs (rd vs i) (kid l i)).toNat, ?_, by omega, by omega, ?_⟩
  · show bestM' vs (rd vs (lineN l vs k)) (kid l (lineN l vs k)) = _
    rw [hk]; omega
  · have h3 := h.2
    simp only [rd, Int.toNat_natCast] at h3 ⊢
    exact h3
theorem range_snoc (f : Nat → Int) (k : Nat) : (List.range (k + 1 + 1)).map f = (List.range (k + 1)).map f ++ [f (k + 1)] := by
  rw [List.range_succ, List.map_append]; rfl
end Go.Proofs.Ytdiljpnfochndaa.HP
/- Plans. -/
namespace Go.Proofs.Ytdiljpnfochndaa.HP
/-- Before node i: which nodes are reached, and the plan so far. -/
structure PI (l : List Nd) (dep : List Int) (ch : Int → Int) (i : Nat) (f : Int → Bool) (out : List Int) : Prop where
  r0 : f 0 = true
  step : ∀ a b : Nat, a < i → b < (kid l a).length → f (k_ l a b) = (f a && (!evB dep a || decide (k_ l a b = ch a)))
  only : ∀ c : Int, f c = true → c = 0 ∨ ∃ a b : Nat, a < i ∧ b < (kid l a).length ∧ k_ l a b = c
  len : out.length = l.length
  done : ∀ j : Nat, j < i → out.getD j 0 = if f j && evB dep j && !leafB l j then ch j else -1
  rest : ∀ j : Nat, i ≤ j → j < l.length → out.getD j 0 = -1
def PlanS (l : List Nd) (dep : List Int) (ch : Int → Int) (f : Int → Bool) (out : List Int) : Prop := PI l dep ch l.length f out
theorem PI.start (l : List Nd) (dep : List Int) (ch : Int → Int) : PI l dep ch 0 (fun k => k == 0) (List.replicate l.length (-1)) :=
  ⟨rfl, fun a b h => by omega, fun c h => .inl (by simpa using h), by simp, fun j h => by omega, fun j _ h => by simp [List.getD_eq_getElem?_getD, h]⟩
theorem kid_mem_at {l : List Nd} {i : Nat} {c : Int} (h : c ∈ kid l i) : ∃ b : Nat, b < (kid l i).length ∧ k_ l i b = c := by
  obtain ⟨b, hb, e⟩ := kid_at h
  exact ⟨b, hb, e⟩
/-- A kid of node i is not reached before. -/
theorem PI.fresh {l : List Nd} {dep : List Int} {ch : Int → Int} {i : Nat} {f : Int → Bool} {out : List Int} (h : PI l dep ch i f out) (hT : TF l dep) (hi : i < l.length) {b : Nat} (hb : b < (kid l i).length) : f (k_ l i b) = false := by
  have hk := hT.kin i b hi hb
  cases hf : f (k_ l i b) with
  | false => rfl
  | true =>
    rcases h.only _ hf with e | ⟨a, b', ha, hb', e⟩
    · omega
    · have := (hT.inj a b' i b (by omega) hb' hi hb e).1
      omega
theorem PI.skip {l : List Nd} {dep : List Int} {ch : Int → Int} {i : Nat} {f : Int → Bool} {out : List Int} (h : PI l dep ch i f out) (hT : TF l dep) (hi : i < l.length) (hs : f i = false ∨ leafB l i = true) : PI l dep ch (i + 1) f out := by
  refine ⟨h.r0, fun a b ha hb => ?_, fun c hc => ?_, h.len, fun j hj => ?_, fun j h1 h2 => h.rest j (by omega) h2⟩
  · by_cases e : a = i
    · subst e
      rw [h.fresh hT hi hb]
      rcases hs with hs | hs
      · rw [hs]; rfl
      · have : kid l a = [] := by unfold leafB at hs; simpa using hs
        rw [this] at hb; simp at hb
    · exact h.step a b (by omega) hb
  · rcases h.only c hc with e | ⟨a, b, ha, hb, e⟩
    · exact .inl e
    · exact .inr ⟨a, b, by omega, hb, e⟩
  · by_cases e : j = i
    · subst e
      rw [h.rest j (Nat.le_refl _) hi, if_neg]
      rcases hs with hs | hs <;> simp [hs]
    · exact h.done j (by omega)
theorem PI.max {l : List Nd} {dep : List Int} {ch : Int → Int} {i : Nat} {f : Int → Bool} {out : List Int} (h : PI l dep ch i f out) (hT : TF l dep) (hi : i < l.length) (hf : f i = true) (hl : leafB l i = false) (he : evB dep i = true) (hc : ch i ∈ kid l i) :
    PI l dep ch (i + 1) (fun k => f k || k == ch i) (out.set i (ch i)) := by
  obtain ⟨b0, hb0, e0⟩ := kid_mem_at hc
  have hk0 := hT.kin i b0 hi hb0
  have hol := h.len
  have hne : ∀ j : Nat, j ≤ i → ((j : Int) == ch i) = false := fun j hj => by simp; omega
  have hfr : ∀ {b : Nat}, b < (kid l i).length → f (k_ l i b) = false := fun hb => h.fresh hT hi hb
  refine ⟨by simp [h.r0], fun a b ha hb => ?_, fun c hc' => ?_, by simp [hol], fun j hj => ?_, fun j h1 h2 => ?_⟩
  · by_cases e : a = i
    · subst e
      rw [hfr hb, hne a (Nat.le_refl _), hf, he]
      simp
      rfl
    · have hka := hT.kin a b (by omega) hb
      have hk1 : (k_ l a b == ch i) = false := by
        simp only [beq_eq_false_iff_ne]
        intro e2
        exact e (hT.inj a b i b0 (by omega) hb hi hb0 (by omega)).1
      rw [hk1, hne a (by omega), Bool.or_false, Bool.or_false]
      exact h.step a b (by omega) hb
  · simp only [Bool.or_eq_true, beq_iff_eq] at hc'
    rcases hc' with hc' | hc'
    · rcases h.only c hc' with e | ⟨a, b, ha, hb, e⟩
      · exact .inl e
      · exact .inr ⟨a, b, by omega, hb, e⟩
    · exact .inr ⟨i, b0, by omega, hb0, by rw [e0, hc']⟩
  · rw [hne j (by omega), Bool.or_false]
    by_cases e : i = j
    · subst e
      rw [getD_set_eq (by omega), hf, he, hl]; rfl
    · rw [getD_set_ne e]; exact h.done j (by omega)
  · rw [getD_set_ne (by omega)]; exact h.rest j (by omega) h2
theorem PI.min {l : List Nd} {dep : List Int} {ch : Int → Int} {i : Nat} {f g : Int → Bool} {out : List Int} (h : PI l dep ch i f out) (hT : TF l dep) (hi : i < l.length) (hf : f i = true) (he : evB dep i = false) (hg : ∀ k, g k = (f k || decide (∃ b : Nat, b < (kid l i).length ∧ k_ l i b = k))) : PI l dep ch (i + 1) g out := by
  have hne : ∀ j : Nat, j ≤ i → ¬ ∃ b : Nat, b < (kid l i).length ∧ k_ l i b = j := fun j hj ⟨b, hb, e⟩ => by have := hT.kin i b hi hb; omega
  have hgj : ∀ j : Nat, j ≤ i → g j = f j := fun j hj => by rw [hg, decide_eq_false (hne j hj), Bool.or_false]
  refine ⟨by have := hgj 0 (by omega); simpa [h.r0] using this, fun a b ha hb => ?_, fun c hc' => ?_, h.len, fun j hj => ?_, fun j h1 h2 => h.rest j (by omega) h2⟩
  · rw [hgj a (by omega)]
    by_cases e : a = i
    · subst e
      rw [hg, decide_eq_true ⟨b, hb, rfl⟩, hf, he]
      simp
    · have hk1 : ¬ ∃ b' : Nat, b' < (kid l i).length ∧ k_ l i b' = k_ l a b := fun ⟨b', hb', e2⟩ => e (hT.inj i b' a b hi hb' (by omega) hb e2).1.symm
      rw [hg, decide_eq_false hk1, Bool.or_false]
      exact h.step a b (by omega) hb
  · rw [hg] at hc'
    simp only [Bool.or_eq_true, decide_eq_true_eq] at hc'
    rcases hc' with hc' | ⟨b, hb, e⟩
    · rcases h.only c hc' with e | ⟨a, b, ha, hb, e⟩
      · exact .inl e
      · exact .inr ⟨a, b, by omega, hb, e⟩
    · exact .inr ⟨i, b, by omega, hb, e⟩
  · rw [hgj j (by omega)]
    by_cases e : j = i
    · subst e
      rw [h.rest j (Nat.le_refl _) hi, if_neg (by simp [he])]
    · exact h.done j (by omega)
/-- Reached nodes are determined. -/
theorem PlanS.reach {l : List Nd} {dep : List Int} {ch : Int → Int} {f g : Int → Bool} {out out' : List Int} (hT : TF l dep) (h : PlanS l dep ch f out) (h' : PlanS l dep ch g out') : ∀ i : Nat, i < l.length → f i = g i := by
  intro i
  induction i using Nat.strongRecOn with
  | _ i ih =>
    intro hi
    by_cases e : i = 0
    · subst e
      have h1 := h.r0
      have h2 := h'.r0
      rw [show ((0 : Nat) : Int) = 0 from rfl, h1, h2]
    · obtain ⟨a, b, ha, hb, hk⟩ := hT.cov i (by omega) hi
      have hka := hT.kin a b ha hb
      have h1 := h.step a b ha hb
      have h2 := h'.step a b ha hb
      rw [hk] at h1 h2
      rw [h1, h2, ih a (by omega) ha]
theorem PlanS.uniq {l : List Nd} {dep : List Int} {ch : Int → Int} {f g : Int → Bool} {out out' : List Int} (hT : TF l dep) (h : PlanS l dep ch f out) (h' : PlanS l dep ch g out') : out = out' := by
  apply List.ext_getElem (by rw [h.len, h'.len])
  intro j h1 h2
  have hj : j < l.length := by rw [← h.len]; exact h1
  have e1 := h.done j hj
  have e2 := h'.done j hj
  rw [h.reach hT h' j hj] at e1
  rw [← e2] at e1
  simpa [List.getD_eq_getElem?_getD, h1, h2] using e1
end Go.Proofs.Ytdiljpnfochndaa.HP
/- How many plans: sums and products that stay small. -/
namespace Go.Proofs.Ytdiljpnfochndaa.HP
def prodL : List Int → Int
  | [] => 1
  | x :: r => x * prodL r
theorem prodL_snoc : ∀ (l : List Int) (z : Int), prodL (l ++ [z]) = prodL l * z
  | [], z => by simp [prodL]
  | x :: r, z => by simp only [List.cons_append, prodL]; rw [prodL_snoc r z, Int.mul_assoc]
theorem sumL_snoc : ∀ (l : List Int) (z : Int), sumL (l ++ [z]) = sumL l + z
  | [], z => by simp [sumL]
  | x :: r, z => by simp only [List.cons_append, sumL]; rw [sumL_snoc r z]; omega
def PLN (l : List Nd) (dep : List Int) (b : Int) (ps : List Int) (j : Int) : Int :=
  if leafB l j then (if b ≤ wor l j then 1 else 0) else if evB dep j then sumL ((kid l j).map (rd ps)) else prodL ((kid l j).map (rd ps))
structure PlsP (l : List Nd) (dep : List Int) (b : Int) (ps : List Int) : Prop where
  len : ps.length = l.length
  at_ : ∀ j : Nat, j < l.length → ps.getD j 0 = PLN l dep b ps j
theorem PLN_congr {l : List Nd} {dep : List Int} (h : TF l dep) {i : Nat} (hi : i < l.length) {b : Int} {vs us : List Int} (he : ∀ j : Nat, i < j → j < l.length → vs.getD j 0 = us.getD j 0) : PLN l dep b vs i = PLN l dep b us i := by
  unfold PLN
  rw [map_rd_congr h hi he]
theorem pls_set {l : List Nd} {dep : List Int} (h : TF l dep) {b : Int} {os : List Int} {q : Nat} (hq : q < l.length) (hol : os.length = l.length) {x : Int} (hx : x = PLN l dep b os q) (hval : ∀ j : Nat, q + 1 ≤ j → j < l.length → os.getD j 0 = PLN l dep b os j) :
    ∀ j : Nat, q ≤ j → j < l.length → (os.set q x).getD j 0 = PLN l dep b (os.set q x) j := by
  intro j h1 h2
  have hc : PLN l dep b (os.set q x) j = PLN l dep b os j := PLN_congr h h2 fun i hi hil => getD_set_ne (by omega)
  rw [hc]
  by_cases e : q = j
  · subst e; rw [getD_set_eq (by omega)]; exact hx
  · rw [getD_set_ne e]; exact hval j (by omega) h2
theorem PlsP.uniq {l : List Nd} {dep : List Int} (h : TF l dep) {b : Int} {vs us : List Int} (hv : PlsP l dep b vs) (hu : PlsP l dep b us) : vs = us := by
  have key : ∀ d j : Nat, l.length - j = d → j < l.length → vs.getD j 0 = us.getD j 0 := by
    intro d
    induction d using Nat.strongRecOn with
    | _ d ih =>
      intro j hd hj
      rw [hv.at_ j hj, hu.at_ j hj]
      exact PLN_congr h hj fun q hq hql => ih (l.length - q) (by omega) q rfl hql
  apply List.ext_getElem (by rw [hv.len, hu.len])
  intro j h1 h2
  have := key _ j rfl (by rw [← hv.len]; exact h1)
  simpa [List.getD_eq_getElem?_getD, h1, h2] using this
/-! ### Leaves below -/
def LN (l : List Nd) (es : List Ef) (j : Int) : Ef := if leafB l j then (1, [j]) else (kid l j).foldl (joinF es) (0, [])
theorem join_congr {es us : List Ef} : ∀ (cs : List Int) (a : Ef), (∀ c ∈ cs, ed es c = ed us c) → cs.foldl (joinF es) a = cs.foldl (joinF us) a
  | [], _, _ => rfl
  | c :: r, a, h => by
    have hj : joinF es a c = joinF us a c := by unfold joinF; rw [h c (by simp)]
    rw [List.foldl_cons, List.foldl_cons, hj]
    exact join_congr r _ fun x hx => h x (by simp [hx])
theorem LN_congr {l : List Nd} {dep : List Int} (h : TF l dep) {i : Nat} (hi : i < l.length) {es us : List Ef} (he : ∀ j : Nat, i < j → j < l.length → es.getD j (0, []) = us.getD j (0, [])) : LN l es i = LN l us i := by
  unfold LN
  rw [join_congr (es := es) (us := us) (kid l i) _ fun c hc => by
    obtain ⟨h1, h2⟩ := mem_kid h hi hc
    exact he c.toNat (by omega) (by omega)]
theorem efset_eq {dep : List Ef} {c : Nat} {x : Ef} (h : c < dep.length) : (dep.set c x).getD c (0, []) = x := by
  rw [List.getD_eq_getElem?_getD, List.getElem?_set_self h]; rfl
theorem efset_ne {dep : List Ef} {c d : Nat} {x : Ef} (h : c ≠ d) : (dep.set c x).getD d (0, []) = dep.getD d (0, []) := by
  rw [List.getD_eq_getElem?_getD, List.getElem?_set_ne h, ← List.getD_eq_getElem?_getD]
theorem leaves_ex {l : List Nd} {dep : List Int} (hT : TF l dep) : ∃ es : List Ef, ∀ j : Nat, j < l.length → es.getD j (0, []) = LN l es j := by
  have key : ∀ d q : Nat, l.length - q = d → q ≤ l.length → ∃ os : List Ef, os.length = l.length ∧ ∀ j : Nat, q ≤ j → j < l.length → os.getD j (0, []) = LN l os j := by
    intro d
    induction d with
    | zero => intro q hd hq; exact ⟨List.replicate l.length (0, []), by simp, fun j h1 h2 => by omega⟩
    | succ d ih =>
      intro q hd hq
      obtain ⟨os, h1, h2⟩ := ih (q + 1) (by omega) (by omega)
      refine ⟨os.set q (LN l os q), by simp [h1], fun j h3 h4 => ?_⟩
      have hc : LN l (os.set q (LN l os q)) j = LN l os j := LN_congr hT h4 fun i hi hil => efset_ne (by omega)
      rw [hc]
      by_cases e : q = j
      · subst e; rw [efset_eq (by omega)]
      · rw [efset_ne e]; exact h2 j (by omega) h4
  obtain ⟨os, h1, h2⟩ := key _ 0 rfl (Nat.zero_le _)
  exact ⟨os, fun j hj => h2 j (Nat.zero_le _) hj⟩
def lenS (es : List Ef) : List Int → Nat
  | [] => 0
  | c :: r => (ed es c).2.length + lenS es r
theorem join_lenS {es : List Ef} : ∀ (cs : List Int) (a : Ef), (cs.foldl (joinF es) a).2.length = a.2.length + lenS es cs
  | [], _ => rfl
  | c :: r, a => by
    rw [List.foldl_cons, join_lenS r]
    simp only [joinF, List.length_append, lenS]
    omega
theorem lenS_take {es : List Ef} : ∀ (cs : List Int) (t : Nat), lenS es (cs.take t) ≤ lenS es cs
  | [], t => by simp [lenS]
  | c :: r, 0 => by simp [lenS]
  | c :: r, t + 1 => by simp only [List.take_succ_cons, lenS]; have := lenS_take (es := es) r t; omega
theorem pow_ge (n : Nat) : (1 : Int) ≤ 2 ^ n := by
  have : (1 : Int) ≤ ((2 ^ n : Nat) : Int) := by have := Nat.one_le_two_pow (n := n); omega
  simpa using this
theorem mul_ge {A B : Int} (ha : 1 ≤ A) (hb : 1 ≤ B) : A + B ≤ A * B + 1 := by
  have h := Int.mul_nonneg (show (0 : Int) ≤ A - 1 by omega) (show (0 : Int) ≤ B - 1 by omega)
  rw [Int.sub_mul, Int.mul_sub, Int.mul_sub] at h
  omega
theorem sum_pow {es : List Ef} {x : Int → Int} : ∀ (cs : List Int), (∀ c ∈ cs, 0 ≤ x c ∧ x c + 1 ≤ 2 ^ (ed es c).2.length) → 0 ≤ sumL (cs.map x) ∧ sumL (cs.map x) + 1 ≤ 2 ^ lenS es cs
  | [], _ => by simp [sumL, lenS]
  | c :: r, h => by
    have h1 := h c (by simp)
    have h2 := sum_pow r fun y hy => h y (by simp [hy])
    have h3 := mul_ge (pow_ge (ed es c).2.length) (pow_ge (lenS es r))
    simp only [List.map_cons, sumL, lenS, Int.pow_add]
    omega
theorem prod_pow {es : List Ef} {x : Int → Int} : ∀ (cs : List Int), cs ≠ [] → (∀ c ∈ cs, 0 ≤ x c ∧ x c + 1 ≤ 2 ^ (ed es c).2.length) → 0 ≤ prodL (cs.map x) ∧ prodL (cs.map x) + 1 ≤ 2 ^ lenS es cs
  | [], h, _ => absurd rfl h
  | [c], _, h => by
    have h1 := h c (by simp)
    simp only [List.map_cons, List.map_nil, prodL, lenS, Int.mul_one, Nat.add_zero]
    exact h1
  | c :: d :: r, _, h => by
    have h1 := h c (by simp)
    have h2 := prod_pow (d :: r) (by simp) fun y hy => h y (by simp [List.mem_cons.1 hy])
    generalize hM : prodL ((d :: r).map x) = M at *
    generalize hB : lenS es (d :: r) = B at *
    have e1 : prodL ((c :: d :: r).map x) = x c * M := by rw [← hM]; rfl
    have e2 : lenS es (c :: d :: r) = (ed es c).2.length + B := by rw [← hB]; rfl
    rw [e1, e2, Int.pow_add]
    have p1 := pow_ge (ed es c).2.length
    have p2 := pow_ge B
    have h3 := mul_ge p1 p2
    generalize (2 : Int) ^ (ed es c).2.length = A at *
    generalize (2 : Int) ^ B = C at *
    have h4 : x c * M ≤ (A - 1) * (C - 1) := Int.mul_le_mul (by omega) (by omega) h2.1 (by omega)
    rw [Int.sub_mul, Int.mul_sub, Int.mul_sub] at h4
    exact ⟨Int.mul_nonneg h1.1 h2.1, by omega⟩
/-- Numbers of plans are small, and so are what they are summed up and multiplied from. -/
theorem pls_small {l : List Nd} {dep : List Int} (hT : TF l dep) {b : Int} {q : Nat} {ps : List Int} (hval : ∀ j : Nat, q ≤ j → j < l.length → ps.getD j 0 = PLN l dep b ps j) {es : List Ef} (hes : ∀ j : Nat, j < l.length → es.getD j (0, []) = LN l es j) :
    ∀ j : Nat, j < l.length → q ≤ j → GoodE l j (es.getD j (0, [])).2 ∧ 0 ≤ ps.getD j 0 ∧ ps.getD j 0 + 1 ≤ 2 ^ (es.getD j (0, [])).2.length := by
  refine tree_ind hT (Q := fun j => q ≤ j → GoodE l j (es.getD j (0, [])).2 ∧ 0 ≤ ps.getD j 0 ∧ ps.getD j 0 + 1 ≤ 2 ^ (es.getD j (0, [])).2.length) fun j hj hk hq => ?_
  have kD : ∀ c ∈ kid l j, GoodE l c (ed es c).2 ∧ 0 ≤ rd ps c ∧ rd ps c + 1 ≤ 2 ^ (ed es c).2.length := fun c hc => by
    obtain ⟨h1, _⟩ := mem_kid hT hj hc
    obtain ⟨i, rfl, hi, h⟩ := hk c hc
    exact h (by omega)
  rw [hes j hj, hval j hq hj]
  unfold LN PLN
  by_cases hl : leafB l j = true
  · rw [if_pos hl, if_pos hl]
    refine ⟨⟨fun x hx => ?_, by simp⟩, by split <;> omega, by simp; split <;> omega⟩
    simp at hx
    subst hx
    exact ⟨by omega, by omega, hl, 0, rfl⟩
  · have hne := leaf_ne hl
    have hg := (good_join hT hj (fun c hc => (kD c hc).1) (kid l j).length (Nat.le_refl _)).1
    rw [List.take_length] at hg
    rw [if_neg hl, if_neg hl]
    refine ⟨hg, ?_⟩
    rw [join_lenS]
    simp only [List.length_nil, Nat.zero_add]
    split
    · exact sum_pow _ fun c hc => (kD c hc).2
    · exact prod_pow _ hne fun c hc => (kD c hc).2
theorem pow60 {n : Nat} (h : n ≤ 60) : (2 : Int) ^ n ≤ 1152921504606846976 := by
  have := Nat.pow_le_pow_right (n := 2) (by omega) h
  have h2 : ((2 ^ n : Nat) : Int) ≤ ((2 ^ 60 : Nat) : Int) := by omega
  simpa using h2
/-- On the way at node p. -/
theorem pls_part {l : List Nd} {dep : List Int} (hT : TF l dep) {b : Int} {p : Nat} (hp : p < l.length) {ps : List Int} (hval : ∀ j : Nat, p + 1 ≤ j → j < l.length → ps.getD j 0 = PLN l dep b ps j) :
    (∀ c ∈ kid l p, 0 ≤ rd ps c ∧ rd ps c ≤ 1152921504606846976) ∧ ∀ t, 0 ≤ sumL (((kid l p).map (rd ps)).take t) ∧ sumL (((kid l p).map (rd ps)).take t) ≤ 1152921504606846976 ∧ 0 ≤ prodL (((kid l p).map (rd ps)).take t) ∧ prodL (((kid l p).map (rd ps)).take t) ≤ 1152921504606846976 := by
  obtain ⟨es, hes⟩ := leaves_ex hT
  have hs := pls_small hT hval hes
  have kD : ∀ c ∈ kid l p, GoodE l c (ed es c).2 ∧ 0 ≤ rd ps c ∧ rd ps c + 1 ≤ 2 ^ (ed es c).2.length := fun c hc => by
    obtain ⟨h1, h2⟩ := mem_kid hT hp hc
    have := hs c.toNat (by omega) (by omega)
    rw [show ((c.toNat : Nat) : Int) = c by omega] at this
    exact this
  have h60 := hT.n60
  have hg := (good_join hT hp (fun c hc => (kD c hc).1) (kid l p).length (Nat.le_refl _)).1.len
  rw [List.take_length, join_lenS] at hg
  simp only [List.length_nil, Nat.zero_add] at hg
  refine ⟨fun c hc => ⟨(kD c hc).2.1, ?_⟩, fun t => ?_⟩
  · have := (kD c hc).1.len
    have := pow60 (n := (ed es c).2.length) (by omega)
    have := (kD c hc).2.2
    omega
  · have hl := lenS_take (es := es) (kid l p) t
    have hpw := pow60 (n := lenS es ((kid l p).take t)) (by omega)
    have hk : ∀ c ∈ (kid l p).take t, 0 ≤ rd ps c ∧ rd ps c + 1 ≤ 2 ^ (ed es c).2.length := fun c hc => (kD c (List.mem_of_mem_take hc)).2
    rw [← List.map_take]
    have h1 := sum_pow _ hk
    refine ⟨h1.1, by omega, ?_⟩
    by_cases hne : (kid l p).take t = []
    · rw [hne]; simp [prodL]
    · have h2 := prod_pow _ hne hk
      exact ⟨h2.1, by omega⟩
end Go.Proofs.Ytdiljpnfochndaa.HP
/- Segments that are permuted. -/
namespace Go.Proofs.Ytdiljpnfochndaa.HP
/-- os' is os with the places from a to b permuted. -/
structure SegP (a b : Nat) (os os' : List Int) : Prop where
  len : os'.length = os.length
  out : ∀ p : Nat, p < a ∨ b ≤ p → os'.getD p 0 = os.getD p 0
  mem : ∀ p : Nat, a ≤ p → p < b → ∃ q : Nat, a ≤ q ∧ q < b ∧ os'.getD p 0 = os.getD q 0
  perm : os'.Perm os
theorem SegP.refl (a b : Nat) (os : List Int) : SegP a b os os := ⟨rfl, fun _ _ => rfl, fun p h1 h2 => ⟨p, h1, h2, rfl⟩, List.Perm.refl _⟩
theorem SegP.trans {a b : Nat} {x y z : List Int} (h : SegP a b x y) (k : SegP a b y z) : SegP a b x z :=
  ⟨k.len.trans h.len, fun p hp => (k.out p hp).trans (h.out p hp), fun p h1 h2 => by
    obtain ⟨q, q1, q2, e⟩ := k.mem p h1 h2
    obtain ⟨r, r1, r2, e'⟩ := h.mem q q1 q2
    exact ⟨r, r1, r2, e.trans e'⟩, k.perm.trans h.perm⟩
theorem SegP.wide {a b a' b' : Nat} {x y : List Int} (h : SegP a b x y) (ha : a' ≤ a) (hb : b ≤ b') : SegP a' b' x y :=
  ⟨h.len, fun p hp => h.out p (by omega), fun p h1 h2 => by
    by_cases e : a ≤ p ∧ p < b
    · obtain ⟨q, q1, q2, e'⟩ := h.mem p e.1 e.2
      exact ⟨q, by omega, by omega, e'⟩
    · exact ⟨p, h1, h2, h.out p (by omega)⟩, h.perm⟩
theorem getD_set' {os : List Int} {i p : Nat} {x : Int} (hi : i < os.length) : (os.set i x).getD p 0 = if p = i then x else os.getD p 0 := by
  by_cases e : p = i
  · subst e; rw [if_pos rfl]; simp [List.getD_eq_getElem?_getD, hi]
  · rw [if_neg e, List.getD_eq_getElem?_getD, List.getElem?_set_ne (fun h => e h.symm), ← List.getD_eq_getElem?_getD]
/-- Two places exchanged. -/
def swp (os : List Int) (i j : Nat) : List Int := (os.set i (os.getD j 0)).set j (os.getD i 0)
theorem swp_getD {os : List Int} {i j p : Nat} (hi : i < os.length) (hj : j < os.length) : (swp os i j).getD p 0 = if p = j then os.getD i 0 else if p = i then os.getD j 0 else os.getD p 0 := by
  unfold swp
  rw [getD_set' (by simpa using hj), getD_set' hi]
theorem swp_len (os : List Int) (i j : Nat) : (swp os i j).length = os.length := by simp [swp]
theorem set_perm : ∀ (os : List Int) (i : Nat) (x : Int), i < os.length → ((os.getD i 0) :: os.set i x).Perm (x :: os)
  | [], i, x, h => by simp at h
  | a :: r, 0, x, _ => by simpa using List.Perm.swap x a r
  | a :: r, i + 1, x, h => by
    have ih := set_perm r i x (by simpa using h)
    simp only [List.set_cons_succ, List.getD_cons_succ]
    exact (List.Perm.swap a _ _).trans ((ih.cons a).trans (List.Perm.swap x a r))
theorem swp_perm {os : List Int} {i j : Nat} (hi : i < os.length) (hj : j < os.length) : (swp os i j).Perm os := by
  have h1 := set_perm os i (os.getD j 0) hi
  have h2 := set_perm (os.set i (os.getD j 0)) j (os.getD i 0) (by simpa using hj)
  have e : (os.set i (os.getD j 0)).getD j 0 = os.getD j 0 := by
    rw [getD_set' hi]
    split
    · rfl
    · rfl
  rw [e] at h2
  have h3 : (os.getD j 0 :: swp os i j).Perm (os.getD j 0 :: os) := h2.trans h1
  exact List.Perm.cons_inv h3
theorem swp_seg {os : List Int} {a b i j : Nat} (hi : i < os.length) (hj : j < os.length) (hai : a ≤ i) (hib : i < b) (haj : a ≤ j) (hjb : j < b) : SegP a b os (swp os i j) :=
  ⟨swp_len _ _ _, fun p hp => by rw [swp_getD hi hj, if_neg (by omega), if_neg (by omega)], fun p h1 h2 => by
    rw [swp_getD hi hj]
    by_cases e : p = j
    · rw [if_pos e]; exact ⟨i, hai, hib, rfl⟩
    · rw [if_neg e]
      by_cases e2 : p = i
      · rw [if_pos e2]; exact ⟨j, haj, hjb, rfl⟩
      · rw [if_neg e2]; exact ⟨p, h1, h2, rfl⟩, swp_perm hi hj⟩
/-- K-sorted from a to b. -/
def SortK (K : Int → Int) (os : List Int) (a b : Nat) : Prop := ∀ p q : Nat, a ≤ p → p < q → q < b → K (os.getD p 0) < K (os.getD q 0)
theorem SortK.same {K : Int → Int} {x y : List Int} {a b : Nat} (h : SortK K x a b) (e : ∀ p : Nat, a ≤ p → p < b → y.getD p 0 = x.getD p 0) : SortK K y a b := fun p q h1 h2 h3 => by
  rw [e p h1 (by omega), e q (by omega) h3]; exact h p q h1 h2 h3
end Go.Proofs.Ytdiljpnfochndaa.HP
/- Blocks exchanged, and rotated. -/
namespace Go.Proofs.Ytdiljpnfochndaa.HP
/-- os' is os with the i numbers from a, and those from b, exchanged. -/
structure SwR (a b i : Nat) (os os' : List Int) : Prop where
  seg : ∀ lo hi : Nat, lo ≤ a → b + i ≤ hi → SegP lo hi os os'
  low : ∀ x : Nat, a ≤ x → x < a + i → os'.getD x 0 = os.getD (x + (b - a)) 0
  upp : ∀ x : Nat, b ≤ x → x < b + i → os'.getD x 0 = os.getD (x - (b - a)) 0
  out : ∀ x : Nat, x < a ∨ (a + i ≤ x ∧ x < b) ∨ b + i ≤ x → os'.getD x 0 = os.getD x 0
theorem SwR.start (a b : Nat) (os : List Int) : SwR a b 0 os os :=
  ⟨fun _ _ _ _ => SegP.refl _ _ _, fun x h1 h2 => by omega, fun x h1 h2 => by omega, fun _ _ => rfl⟩
theorem SwR.step {a b i : Nat} {os os' : List Int} (h : SwR a b i os os') (hab : a + i < b) (hb : b + i < os.length) : SwR a b (i + 1) os (swp os' (a + i) (b + i)) := by
  have hl : os'.length = os.length := (h.seg a (b + i) (Nat.le_refl _) (Nat.le_refl _)).len
  have g : ∀ p : Nat, (swp os' (a + i) (b + i)).getD p 0 = if p = b + i then os'.getD (a + i) 0 else if p = a + i then os'.getD (b + i) 0 else os'.getD p 0 := fun p => swp_getD (by omega) (by omega)
  refine ⟨fun lo hi h1 h2 => (h.seg lo hi h1 (by omega)).trans (swp_seg (by omega) (by omega) (by omega) (by omega) (by omega) (by omega)), fun x h1 h2 => ?_, fun x h1 h2 => ?_, fun x hx => ?_⟩
  · rw [g, if_neg (by omega)]
    by_cases e : x = a + i
    · rw [if_pos e, h.out _ (by omega)]; congr 1; omega
    · rw [if_neg e]; exact h.low x h1 (by omega)
  · rw [g]
    by_cases e : x = b + i
    · rw [if_pos e, h.out _ (by omega)]; congr 1; omega
    · rw [if_neg e, if_neg (by omega)]; exact h.upp x h1 (by omega)
  · rw [g, if_neg (by omega), if_neg (by omega)]; exact h.out x (by omega)
/-- On the way of a rotation: T is what it comes to; the i numbers before m and the j numbers from m are still to be exchanged. -/
structure Rot (T : Nat → Int) (a m b i j : Nat) (os0 os : List Int) : Prop where
  seg : SegP a b os0 os
  ia : a + i ≤ m
  jb : m + j ≤ b
  lo : ∀ x : Nat, a ≤ x → x < m - i → os.getD x 0 = T x
  hi : ∀ x : Nat, m + j ≤ x → x < b → os.getD x 0 = T x
  l : ∀ x : Nat, m - i ≤ x → x < m - i + j → os.getD (x + i) 0 = T x
  r : ∀ x : Nat, m - i + j ≤ x → x < m + j → os.getD (x - j) 0 = T x
/-- What a rotation comes to. -/
def rotT (os : List Int) (a m b : Nat) (x : Nat) : Int := if x < a + (b - m) then os.getD (x + (m - a)) 0 else os.getD (x - (b - m)) 0
theorem Rot.start {a m b : Nat} (os : List Int) (h1 : a ≤ m) (h2 : m ≤ b) : Rot (rotT os a m b) a m b (m - a) (b - m) os os :=
  ⟨SegP.refl _ _ _, by omega, by omega, fun x h1 h2 => by omega, fun x h1 h2 => by omega, fun x h3 h4 => by unfold rotT; rw [if_pos (by omega)], fun x h3 h4 => by unfold rotT; rw [if_neg (by omega)]⟩
theorem Rot.left {T : Nat → Int} {a m b i j : Nat} {os0 os os' : List Int} (h : Rot T a m b i j os0 os) (hij : j < i) (s : SwR (m - i) m j os os') : Rot T a m b (i - j) j os0 os' := by
  have ia := h.ia; have jb := h.jb
  refine ⟨h.seg.trans (s.seg a b (by omega) (by omega)), by omega, h.jb, fun x h1 h2 => ?_, fun x h1 h2 => ?_, fun x h1 h2 => ?_, fun x h1 h2 => ?_⟩
  · by_cases e : x < m - i
    · rw [s.out _ (by omega)]; exact h.lo x h1 e
    · rw [s.low _ (by omega) (by omega), show x + (m - (m - i)) = x + i by omega]; exact h.l x (by omega) (by omega)
  · rw [s.out _ (by omega)]; exact h.hi x h1 h2
  · by_cases e : x + (i - j) < m
    · omega
    · rw [s.upp _ (by omega) (by omega), show x + (i - j) - (m - (m - i)) = x - j by omega]; exact h.r x (by omega) (by omega)
  · rw [s.out _ (by omega)]; exact h.r x (by omega) h2
theorem Rot.right {T : Nat → Int} {a m b i j : Nat} {os0 os os' : List Int} (h : Rot T a m b i j os0 os) (hij : i < j) (s : SwR (m - i) (m + j - i) i os os') : Rot T a m b i (j - i) os0 os' := by
  have ia := h.ia; have jb := h.jb
  refine ⟨h.seg.trans (s.seg a b (by omega) (by omega)), h.ia, by omega, fun x h1 h2 => ?_, fun x h1 h2 => ?_, fun x h1 h2 => ?_, fun x h1 h2 => ?_⟩
  · rw [s.out _ (by omega)]; exact h.lo x h1 h2
  · by_cases e : x < m + j
    · rw [s.upp _ (by omega) (by omega), show x - (m + j - i - (m - i)) = x - j by omega]; exact h.r x (by omega) (by omega)
    · rw [s.out _ (by omega)]; exact h.hi x (by omega) h2
  · rw [s.out _ (by omega)]; exact h.l x h1 (by omega)
  · by_cases e : x - (j - i) < m
    · rw [s.low _ (by omega) (by omega), show x - (j - i) + (m + j - i - (m - i)) = x + i by omega]; exact h.l x (by omega) (by omega)
    · omega
theorem Rot.done {T : Nat → Int} {a m b i : Nat} {os0 os os' : List Int} (h : Rot T a m b i i os0 os) (s : SwR (m - i) m i os os') : SegP a b os0 os' ∧ ∀ x : Nat, a ≤ x → x < b → os'.getD x 0 = T x := by
  have ia := h.ia; have jb := h.jb
  refine ⟨h.seg.trans (s.seg a b (by omega) (by omega)), fun x h1 h2 => ?_⟩
  by_cases e1 : x < m - i
  · rw [s.out _ (by omega)]; exact h.lo x h1 e1
  · by_cases e2 : x < m
    · rw [s.low _ (by omega) (by omega), show x + (m - (m - i)) = x + i by omega]; exact h.l x (by omega) (by omega)
    · by_cases e3 : x < m + i
      · rw [s.upp _ (by omega) (by omega), show x - (m - (m - i)) = x - i by omega]; exact h.r x (by omega) (by omega)
      · rw [s.out _ (by omega)]; exact h.hi x (by omega) h2
end Go.Proofs.Ytdiljpnfochndaa.HP
