/- A part of the walk: what this seat's statements share. -/
import Derived.Test.YtdiljpnfochndaaZV7
set_option linter.unusedSectionVars false
set_option linter.unusedVariables false
set_option linter.unusedSimpArgs false
/- Slices of structs of the call's own; results that lie in memory. -/
namespace Go.Proofs.Ytdiljpnfochndaa.VW
open Go Go.RowKit
section
variable {P : Program} [hT : Tab P] {n : Nat} {ds : List Deferred} {Φ : Post} {k : List It} {ρ : E} {w : World} {all : Array Oper} {l : List Oper} {md : Option (List Oper)}
theorem own_at {e sz m : Nat} {v : Value} {cs : List Value} (hown : w.ownsRow 0 e sz v m cs) (hm : 0 < m) : ∃ g cap, v = .slice (some ⟨g, 0, none⟩) m cap ∧ ∀ j, j < m * sz → w.cell? ⟨g, j, none⟩ = some (cs.getD j undef) := by
  obtain ⟨g, cap, rfl⟩ : ∃ g cap, v = .slice (some ⟨g, 0, none⟩) m cap := by
    rcases hown.2 with ⟨_, h⟩ | ⟨g, cap, _, h, _⟩
    · omega
    · exact ⟨g, cap, h⟩
  refine ⟨g, cap, rfl, fun j hj => ?_⟩
  have := hown.cells (g := g) rfl j (cs.getD j undef) (by
    have hl := hown.1
    simp [List.getD_eq_getElem?_getD, hl, hj])
  rw [add_lit, Nat.zero_add] at this
  exact this
theorem mul_lt {i m sz off : Nat} (h : i < m) (ho : off < sz) : i * sz + off < m * sz := by
  have : (i + 1) * sz ≤ m * sz := Nat.mul_le_mul_right _ h
  rw [Nat.add_mul] at this
  omega
theorem Ops.rdOF {o1 o2 o3 : Oper} {d1 d2 d3 t s t' f e sz off szf m : Nat} {x y : Operand} {v : Value} {i : Int} {cs : List Value}
    (h1 : o1.op = .indexAddr t x y) (hd1 : o1.dst = some d1) (hg1 : o1.guard = none) (h2 : o2.op = .fieldAddr s (.tmp d1) f) (hd2 : o2.dst = some d2) (hg2 : o2.guard = none) (h3 : o3.op = .load t' (.tmp d2)) (hd3 : o3.dst = some d3) (hg3 : o3.guard = none)
    (ht : tyD P t = some (.slice e)) (hs : tyS P e = some sz) (hf : fieldOff P s f = some (off, szf + 1)) (hlt : Nat.blt off sz = true) (ha : tyAgg P t' = some false) (hx : ev ρ x = some v) (hy : ev ρ y = some (.int .i64 i)) (hown : w.ownsRow 0 e sz v m cs) (h0 : 0 ≤ i) (hi : i < m)
    (hk : ∀ p q, Ops md P n ds all k Φ l ((d3, cs.getD (i.toNat * sz + off) undef) :: (d2, q) :: (d1, p) :: ρ) w) : Ops md P n ds all k Φ (o1 :: o2 :: o3 :: l) ρ w := by
  have hlt' : off < sz := by simpa using hlt
  obtain ⟨g, cap, rfl, hc⟩ := own_at hown (by omega)
  refine Ops.idx h1 hd1 hg1 ht hs hx hy h0 hi (Ops.fld h2 hd2 hg2 hf (ev_top _ _ _) ?_)
  rw [add_lit, add_lit, Nat.zero_add]
  exact Ops.ld h3 hd3 hg3 ha (ev_top _ _ _) (hc _ (mul_lt (by omega) hlt')) (hk _ _)
theorem Ops.rdOA {o1 o2 : Oper} {d1 d2 t t' e m : Nat} {x y : Operand} {v : Value} {i : Int} {cs : List Value}
    (h1 : o1.op = .indexAddr t x y) (hd1 : o1.dst = some d1) (hg1 : o1.guard = none) (h2 : o2.op = .load t' (.tmp d1)) (hd2 : o2.dst = some d2) (hg2 : o2.guard = none)
    (ht : tyD P t = some (.slice e)) (hs : tyS P e = some 2) (hs' : tyS P t' = some 2) (ha : tyAgg P t' = some true) (hx : ev ρ x = some v) (hy : ev ρ y = some (.int .i64 i)) (hown : w.ownsRow 0 e 2 v m cs) (h0 : 0 ≤ i) (hi : i < m)
    (hk : ∀ p, Ops md P n ds all k Φ l ((d2, .agg #[cs.getD (i.toNat * 2) undef, cs.getD (i.toNat * 2 + 1) undef]) :: (d1, p) :: ρ) w) : Ops md P n ds all k Φ (o1 :: o2 :: l) ρ w := by
  obtain ⟨g, cap, rfl, hc⟩ := own_at hown (by omega)
  refine Ops.idx h1 hd1 hg1 ht hs hx hy h0 hi ?_
  rw [add_lit, Nat.zero_add]
  refine Ops.ld2 h2 hd2 hg2 ha hs' (ev_top _ _ _) (hc _ (by omega)) ?_ (hk _)
  rw [add_lit]
  exact hc _ (by omega)
theorem ev_skip {d : Nat} {p : Value} {z : Operand} {u : Value} (hz : ev ρ z = some u) (hzd : z ≠ .tmp d) : ev ((d, p) :: ρ) z = some u := by
  cases z with
  | tmp t2 =>
    have : Nat.beq d t2 = false := by
      cases hb : Nat.beq d t2 with
      | false => rfl
      | true => exact absurd (by rw [Nat.eq_of_beq_eq_true hb]) hzd
    simp only [ev, look, this] at hz ⊢
    exact hz
  | _ => exact hz
theorem own_set {g cap e sz m j : Nat} {cs : List Value} {cur : Array Value} {u : Value} {w' : World} (hown : w.ownsRow 0 e sz (.slice (some ⟨g, 0, none⟩) m cap) m cs) (hb : Blk w g cur e) (hu : Upd w w' g (cur.setIfInBounds j u) e) : w'.ownsRow 0 e sz (.slice (some ⟨g, 0, none⟩) m cap) m (cs.set j u) := by
  rcases hown.2 with ⟨h, _⟩ | ⟨g', cap', cur', h, _, hg, hnc, hcm, hcs, htk⟩
  · simp at h
  · simp only [Value.slice.injEq, Option.some.injEq, Addr.mk.injEq, and_true, true_and] at h
    obtain ⟨rfl, rfl⟩ := h
    unfold Blk at hb
    rw [hb] at hg
    simp only [Option.some.injEq, Obj.cells.injEq, and_true] at hg
    subst hg
    refine ⟨by simpa using hown.1, .inr ⟨g, cap, _, rfl, Nat.zero_le _, hu.blk, hnc, hcm, by simpa using hcs, ?_⟩⟩
    rw [Array.toList_setIfInBounds, ← htk, List.take_set]
theorem own_blk {e sz m : Nat} {v : Value} {cs : List Value} (hown : w.ownsRow 0 e sz v m cs) (hm : 0 < m) : ∃ g cap cur, v = .slice (some ⟨g, 0, none⟩) m cap ∧ Blk w g cur e ∧ m * sz ≤ cur.size := by
  rcases hown.2 with ⟨rfl, h⟩ | ⟨g, cap, cur, rfl, _, hg, hnc, _, hcs, _⟩
  · omega
  · exact ⟨g, cap, cur, rfl, hg, by rw [hcs]; exact Nat.mul_le_mul_right _ hnc⟩
/-- A field of an element of a slice of the call's own, written. -/
theorem Ops.wrOF {o1 o2 o3 : Oper} {d1 d2 t s t' f e sz off szf m : Nat} {x y z : Operand} {v u : Value} {i : Int} {cs : List Value}
    (h1 : o1.op = .indexAddr t x y) (hd1 : o1.dst = some d1) (hg1 : o1.guard = none) (h2 : o2.op = .fieldAddr s (.tmp d1) f) (hd2 : o2.dst = some d2) (hg2 : o2.guard = none) (h3 : o3.op = .store t' (.tmp d2) z) (hd3 : o3.dst = none) (hg3 : o3.guard = none)
    (ht : tyD P t = some (.slice e)) (hs : tyS P e = some sz) (hf : fieldOff P s f = some (off, szf + 1)) (hlt : Nat.blt off sz = true) (hs' : tyS P t' = some 1) (hx : ev ρ x = some v) (hy : ev ρ y = some (.int .i64 i)) (hz : ev ρ z = some u) (hz1 : z ≠ .tmp d1) (hz2 : z ≠ .tmp d2) (hu1 : u.oneCell' = true)
    (hown : w.ownsRow 0 e sz v m cs) (h0 : 0 ≤ i) (hi : i < m)
    (hk : ∀ w' p q, w'.ownsRow 0 e sz v m (cs.set (i.toNat * sz + off) u) → Kp (fun b => v.ownBlock = some b) w w' → Ops none P n ds all k Φ l ((d2, q) :: (d1, p) :: ρ) w') : Ops none P n ds all k Φ (o1 :: o2 :: o3 :: l) ρ w := by
  have hlt' : off < sz := by simpa using hlt
  obtain ⟨g, cap, cur, rfl, hb, hcs⟩ := own_blk hown (by omega)
  refine Ops.idx h1 hd1 hg1 ht hs hx hy h0 hi (Ops.fld h2 hd2 hg2 hf (ev_top _ _ _) ?_)
  rw [add_lit, add_lit, Nat.zero_add]
  have hbd := mul_lt (i := i.toNat) (m := m) (sz := sz) (off := off) (by omega) hlt'
  refine Ops.st h3 hd3 hg3 hs' (ev_top _ _ _) (ev_skip (ev_skip hz hz1) hz2) hu1 hb (by omega) (fun w' hu => hk w' _ _ (own_set hown hb hu) ?_)
  exact hu.kp.mono (fun i _ e => by simp [Value.ownBlock, e])
/-- An element of two cells of a slice of the call's own, written. -/
theorem Ops.wrOA {o1 o2 : Oper} {d1 t t' e m : Nat} {x y z : Operand} {v a b : Value} {i : Int} {cs : List Value}
    (h1 : o1.op = .indexAddr t x y) (hd1 : o1.dst = some d1) (hg1 : o1.guard = none) (h2 : o2.op = .store t' (.tmp d1) z) (hd2 : o2.dst = none) (hg2 : o2.guard = none)
    (ht : tyD P t = some (.slice e)) (hs : tyS P e = some 2) (hs' : tyS P t' = some 2) (hx : ev ρ x = some v) (hy : ev ρ y = some (.int .i64 i)) (hz : ev ρ z = some (.agg #[a, b])) (hz1 : z ≠ .tmp d1) (ha1 : a.oneCell' = true) (hb1 : b.oneCell' = true)
    (hown : w.ownsRow 0 e 2 v m cs) (h0 : 0 ≤ i) (hi : i < m)
    (hk : ∀ w' p, w'.ownsRow 0 e 2 v m ((cs.set (i.toNat * 2) a).set (i.toNat * 2 + 1) b) → Kp (fun b => v.ownBlock = some b) w w' → Ops none P n ds all k Φ l ((d1, p) :: ρ) w') : Ops none P n ds all k Φ (o1 :: o2 :: l) ρ w := by
  obtain ⟨g, cap, cur, rfl, hb, hcs⟩ := own_blk hown (by omega)
  refine Ops.idx h1 hd1 hg1 ht hs hx hy h0 hi ?_
  rw [add_lit, Nat.zero_add]
  have hbd : i.toNat * 2 + 1 < cur.size := by omega
  have hu1 := upd_set hb (i.toNat * 2) a
  have hu2 := upd_set hu1.blk (i.toNat * 2 + 1) b
  have ho1 := own_set hown hb hu1
  have ho2 := own_set ho1 hu1.blk hu2
  refine Ops.unit hg2 hd2 (fun act hr => ?_) (hk ((w.setCell ⟨g, i.toNat * 2, none⟩ a).setCell ⟨g, i.toNat * 2 + 1, none⟩ b) _ ho2 ((hu1.kp.trans hu2.kp).mono (fun i _ e => by simp [Value.ownBlock]; rcases e with e | e <;> exact e.symm)))
  have e0 : ∀ q, (⟨g, q, none⟩ : Addr).add 0 = ⟨g, q, none⟩ := fun q => by simp [Addr.add]
  have e1 : ∀ q, (⟨g, q, none⟩ : Addr).add 1 = ⟨g, q + 1, none⟩ := fun q => by simp [Addr.add]
  have c0' : w.cell? ⟨g, i.toNat * 2, none⟩ = some cur[i.toNat * 2] := hb.cell (by simp)
  have f0 : w.frozen? ⟨g, i.toNat * 2, none⟩ = false := by unfold Blk at hb; simp [World.frozen?, hb]
  have hb1' := hu1.blk
  have c1' : (w.setCell ⟨g, i.toNat * 2, none⟩ a).cell? ⟨g, i.toNat * 2 + 1, none⟩ = some cur[i.toNat * 2 + 1] := hb1'.cell (by rw [Array.getElem?_setIfInBounds_ne (by omega)]; simp [hbd])
  have f1 : (w.setCell ⟨g, i.toNat * 2, none⟩ a).frozen? ⟨g, i.toNat * 2 + 1, none⟩ = false := by unfold Blk at hb1'; simp [World.frozen?, hb1']
  have r0 := run_store (P := P) ha1 c0' f0
  have r1 := run_store (P := P) hb1 c1' f1
  simp only [execOp, h2, hr.ev (ev_top _ _ _), hr.ev (ev_skip hz hz1)]
  simp [Instr.storeAt, Instr.sureAddr, storeVar, run_sizeOf hs', storeCells, Value.cells, e0, e1, r0, r1]
omit hT in
theorem run_equalIn_bool {t : Nat} {a b : Bool} (hu : P.underlying t = some .bool) (d : Nat) : (Op.equalIn (d + 1) t (.bool a) (.bool b)).run P w = .ok (a == b) w := by
  simp [Op.equalIn, run_und hu]
omit hT in
theorem run_equal_bool {t : Nat} {a b : Bool} (hu : P.underlying t = some .bool) : (Op.equal t (.bool a) (.bool b)).run P w = .ok (a == b) w := by
  unfold Op.equal
  rw [show Op.maxDepth = 9999 + 1 from rfl]
  exact run_equalIn_bool hu 9999
/-- == and != of two bools. -/
theorem Ops.eqB {o : Oper} {d t t' : Nat} {x y : Operand} {a b : Bool} (ho : o.op = .binOp .eql t x y t') (hd : o.dst = some d) (hg : o.guard = none) (ht : tyD P t = some .bool) (hx : ev ρ x = some (.bool a)) (hy : ev ρ y = some (.bool b))
    (hk : Ops md P n ds all k Φ l ((d, .bool (a == b)) :: ρ) w) : Ops md P n ds all k Φ (o :: l) ρ w := by
  refine Ops.valS hd hg (fun c hr => ?_) hk
  have hu := run_equal_bool (P := P) (w := w) (a := a) (b := b) (td_bool (tyD_ok ht))
  simp only [execOp, ho, hr.ev hx, hr.ev hy]
  simp [eqGuard, binOp, hu]
theorem Ops.neB {o : Oper} {d t t' : Nat} {x y : Operand} {a b : Bool} (ho : o.op = .binOp .neq t x y t') (hd : o.dst = some d) (hg : o.guard = none) (ht : tyD P t = some .bool) (hx : ev ρ x = some (.bool a)) (hy : ev ρ y = some (.bool b))
    (hk : Ops md P n ds all k Φ l ((d, .bool (!(a == b))) :: ρ) w) : Ops md P n ds all k Φ (o :: l) ρ w := by
  refine Ops.valS hd hg (fun c hr => ?_) hk
  have hu := run_equal_bool (P := P) (w := w) (a := a) (b := b) (td_bool (tyD_ok ht))
  simp only [execOp, ho, hr.ev hx, hr.ev hy]
  simp [eqGuard, binOp, hu]
/-- A literal of two elements of one cell. -/
theorem Ops.bs2 {o : Oper} {d t e : Nat} {x y : Operand} {u v z : Value} (ho : o.op = .buildSlice t 2 #[(0, x), (1, y)]) (hd : o.dst = some d) (hg : o.guard = none)
    (ht : tyD P t = some (.slice e)) (hs : tyS P e = some 1) (hz : tyZ P e = some z) (hzs : z.cells.size = 1) (hx : ev ρ x = some u) (hy : ev ρ y = some v) (h1 : u.oneCell' = true) (h2 : v.oneCell' = true)
    (hk : ∀ w' r, Mk w w' r (.cells #[u, v] e) → Ops none P n ds all k Φ l ((d, .slice (some ⟨r, 0, none⟩) 2 2) :: ρ) w') : Ops none P n ds all k Φ (o :: l) ρ w := by
  refine Ops.val hd hg (fun a hr => ?_) (hk _ _ (mk_alloc w _))
  have hcs : u.cells = #[u] := by cases u <;> simp_all [Value.oneCell', Value.cells]
  have hcs2 : v.cells = #[v] := by cases v <;> simp_all [Value.oneCell', Value.cells]
  have hr1 : (Array.range 2 : Array Nat) = #[0, 1] := by rfl
  simp [execOp, ho, Instr.buildSlice, hr.ev hx, hr.ev hy, run_und (td_slice (tyD_ok ht)), run_sizeOf hs, run_zeroV hz, hr1, Instr.fill, hcs, hcs2, newRow, newObj, Sem.run]
omit n in
/-- A result of two cells that lies in memory. -/
theorem W.fretC2 {fn : Func} {R : Value → World → Prop} {a t b t' : Nat} {u v : Value} (hres : fn.results = #[.cell a t]) (hl : look ρ a = some (.pointer (some ⟨b, 0, none⟩))) (hs : tyS P t = some 2) (hg : tyAgg P t = some true)
    (hb : Blk w b #[u, v] t') (hR : R (.agg #[u, v]) w) : W P fn.ntmps ds (.code .ret :: k) (Fin P fn R) ρ w := by
  refine W.ret ⟨_, fun act hr => ?_, hR⟩
  have c0 : w.cell? ⟨b, 0, none⟩ = some u := hb.cell (by simp)
  have c1 : w.cell? ⟨b, 1, none⟩ = some v := hb.cell (by simp)
  have e0 : (⟨b, 0, none⟩ : Addr).add 0 = ⟨b, 0, none⟩ := by simp [Addr.add]
  have e1 : (⟨b, 0, none⟩ : Addr).add 1 = ⟨b, 1, none⟩ := by simp [Addr.add]
  have hsl := hr.slot a _ hl
  rw [Array.getD_eq_getD_getElem?] at hsl
  simp [results, hres, hsl, asAddr, loadVar, run_isAgg hg, run_sizeOf hs, loadCells, loadCellsFrom, load, Sem.run, e0, e1, c0, c1]
end
end Go.Proofs.Ytdiljpnfochndaa.VW
