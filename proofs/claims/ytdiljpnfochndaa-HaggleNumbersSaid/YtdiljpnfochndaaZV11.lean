/- A part of the walk: what this seat's statements share. -/
import Derived.Test.YtdiljpnfochndaaZV10
import Derived.Laws.Entries
set_option linter.unusedSectionVars false
set_option linter.unusedVariables false
set_option linter.unusedSimpArgs false
/- Conversions of ints; rests of other kinds; appends of structs. -/
namespace Go.Proofs.Ytdiljpnfochndaa.VW
open Go Go.RowKit
section
variable {P : Program} [hT : Tab P] {n : Nat} {ds : List Deferred} {Φ : Post} {k : List It} {ρ : E} {w : World} {all : Array Oper} {l : List Oper} {md : Option (List Oper)}
theorem Ops.cv {o : Oper} {d s t : Nat} {x : Operand} {k1 k2 : IntKind} {v : Int} (ho : o.op = .convert s t x) (hd : o.dst = some d) (hg : o.guard = none)
    (h1 : tyD P s = some (.int k1)) (h2 : tyD P t = some (.int k2)) (hx : ev ρ x = some (.int k1 v)) (hk : Ops md P n ds all k Φ l ((d, .int k2 (k2.wrap v)) :: ρ) w) : Ops md P n ds all k Φ (o :: l) ρ w := by
  refine Ops.valS hd hg (fun a hr => ?_) hk
  have hu1 := td_int (tyD_ok h1)
  have hu2 := td_int (tyD_ok h2)
  have hi : P.intKind t = k2 := by simp [Program.intKind, hu2]
  have := run_convert_int (P := P) (w := w) s t k1 v (by simp [hu1]) (by rw [hi]; exact hu2)
  simp only [execOp, ho, hr.ev hx]
  simp [this, hi]
theorem Ops.remK {o : Oper} {kd : IntKind} {u v : Int} {d t t' : Nat} {x y : Operand} (ho : o.op = .binOp .rem t x y t') (hd : o.dst = some d) (hg : o.guard = none) (hx : ev ρ x = some (.int kd u)) (hy : ev ρ y = some (.int kd v)) (hv : v ≠ 0)
    (hk : Ops md P n ds all k Φ l ((d, .int kd (u.tmod v)) :: ρ) w) : Ops md P n ds all k Φ (o :: l) ρ w := by
  refine Ops.valS hd hg (fun a hr => ?_) hk
  simp only [execOp, ho, hr.ev hx, hr.ev hy]
  simp [eqGuard, binOp, Op.intDiv, hv, go_sem]
/-- s = append(s, x): an element of two cells. -/
theorem Ops.push2 {o1 o2 : Oper} {d1 d2 t e by' nn : Nat} {x y : Operand} {a b lv z0 z1 : Value} {xs : List Value}
    (h1 : o1.op = .buildSlice t 1 #[(0, x)]) (hd1 : o1.dst = some d1) (hg1 : o1.guard = none) (h2 : o2.op = .call { callee := .builtin .append, args := #[y, .tmp d1], argTypes := #[t, t] }) (hd2 : o2.dst = some d2) (hg2 : o2.guard = none)
    (ht : tyD P t = some (.slice e)) (hs : tyS P e = some 2) (hb : tyB P e = some (by' + 1)) (hz : tyZ P e = some (.agg #[z0, z1])) (hx : ev ρ x = some (.agg #[a, b])) (hy : ∀ p, ev ((d1, p) :: ρ) y = some lv) (ha : a.oneCell' = true) (hb1 : b.oneCell' = true)
    (hown : w.ownsRow 0 e 2 lv nn xs) (hbytes : (nn + 1) * (by' + 1) ≤ 140737488355328)
    (hk : ∀ lv' p w', w'.ownsRow 0 e 2 lv' (nn + 1) (xs ++ [a, b]) → Kp (fun i => lv.ownBlock = some i) w w' → (∀ i, lv'.ownBlock = some i → lv.ownBlock = some i ∨ w.heap.size ≤ i) → Ops none P n ds all k Φ l ((d2, lv') :: (d1, p) :: ρ) w') : Ops none P n ds all k Φ (o1 :: o2 :: l) ρ w := by
  have hr2 : Array.range 2 = #[0, 1] := rfl
  refine Ops.bsG (cs := #[a, b]) h1 hd1 hg1 ht hs hz (vs := [(0, .agg #[a, b])]) (by simp [evP, hx]) rfl rfl (by simp [Instr.fill, Value.cells, hr2]) (fun w1 r hM => ?_)
  have hB : Blk w1 r #[a, b] e := hM.at_
  refine Ops.app (sz := 1) (news := [a, b]) (m := 1) (A := ⟨r, 0, none⟩) (c := 1) h2 hd2 hg2 ht hs hb hz rfl (hy _) (ev_top _ _ _) (own_kp hown hM.kp (fun _ _ e => e)) rfl ?_ (by simp [ha, hb1]) hbytes (fun v' w' ho hk' hn => hk v' _ w' ho ?_ ?_)
  · intro j u hu
    rw [add_lit, Nat.zero_add]
    exact hB.cell (by simpa using hu)
  · exact (hM.kp.trans hk').mono (fun i _ e => by rcases e with e | e; exact e.elim; exact e)
  · intro i hi
    rcases hn i hi with h | h
    · exact .inl h
    · right; have := hM.size; omega
end
end Go.Proofs.Ytdiljpnfochndaa.VW
