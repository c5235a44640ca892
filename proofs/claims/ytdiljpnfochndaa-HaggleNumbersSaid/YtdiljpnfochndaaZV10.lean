/- A part of the walk: what this seat's statements share. -/
import Derived.Test.YtdiljpnfochndaaZV9
set_option linter.unusedSectionVars false
set_option linter.unusedVariables false
set_option linter.unusedSimpArgs false
/- Literals of any shape. -/
namespace Go.Proofs.Ytdiljpnfochndaa.VW
open Go Go.RowKit
def evP (ρ : E) : List (Nat × Operand) → Option (List (Nat × Value))
  | [] => some []
  | (i, x) :: r => match ev ρ x, evP ρ r with
    | some v, some vs => some ((i, v) :: vs)
    | _, _ => none
theorem evP_map {n : Nat} {a : Act} {ρ : E} (h : Rep n a ρ) : ∀ {l : List (Nat × Operand)} {vs : List (Nat × Value)}, evP ρ l = some vs → l.map (fun p => (p.1, a.eval p.2)) = vs
  | [], vs, e => by simp [evP] at e; simp [e]
  | (i, x) :: r, vs, e => by
    simp only [evP] at e
    split at e
    · rename_i v us h1 h2
      simp at e
      subst e
      simp [h.ev h1, evP_map h h2]
    · simp at e
section
variable {P : Program} [hT : Tab P] {n : Nat} {ds : List Deferred} {Φ : Post} {k : List It} {ρ : E} {w : World} {all : Array Oper} {l : List Oper} {md : Option (List Oper)}
/-- A struct's literal: two fields of one cell each. -/
theorem Ops.bldG {o : Oper} {d t : Nat} {parts : Array (Nat × Operand)} {vs : List (Nat × Value)} {z : Value} {cs : Array Value} (ho : o.op = .build t parts) (hd : o.dst = some d) (hg : o.guard = none)
    (ht : tyD P t = some (.struct [(0, 1), (1, 1)])) (hz : tyZ P t = some z) (hp : evP ρ parts.toList = some vs) (hf : Instr.fill (fun i => [((0 : Nat), (1 : Nat)), (1, 1)][i]?) z.cells vs = some cs)
    (hk : Ops md P n ds all k Φ l ((d, .agg cs) :: ρ) w) : Ops md P n ds all k Φ (o :: l) ρ w := by
  refine Ops.valS hd hg (fun a hr => ?_) hk
  obtain ⟨gs, hu, hm⟩ := td_struct (tyD_ok ht)
  have hsz : ∃ f g, gs = #[f, g] ∧ f.offset = 0 ∧ g.offset = 1 ∧ ((P.info? f.type).map (·.size)).getD 0 = 1 ∧ ((P.info? g.type).map (·.size)).getD 0 = 1 := by
    obtain ⟨L⟩ := gs
    rcases L with _ | ⟨f, _ | ⟨g, _ | ⟨h, r⟩⟩⟩
    · simp at hm
    · simp at hm
    · simp at hm; exact ⟨f, g, rfl, hm.1.1, hm.2.1, hm.1.2, hm.2.2⟩
    · simp at hm
  obtain ⟨f, g, rfl, hf0, hg1, hfs, hgs⟩ := hsz
  have q1 : ∃ i, P.info? f.type = some i ∧ i.size = 1 := by
    cases hi : P.info? f.type with
    | none => rw [hi] at hfs; simp at hfs
    | some i => rw [hi] at hfs; exact ⟨i, rfl, by simpa using hfs⟩
  have q2 : ∃ i, P.info? g.type = some i ∧ i.size = 1 := by
    cases hi : P.info? g.type with
    | none => rw [hi] at hgs; simp at hgs
    | some i => rw [hi] at hgs; exact ⟨i, rfl, by simpa using hgs⟩
  obtain ⟨i1, e1, s1⟩ := q1
  obtain ⟨i2, e2, s2⟩ := q2
  have hpm : (parts.map fun (i, x) => (i, a.eval x)).toList = vs := by rw [Array.toList_map]; exact evP_map hr hp
  have hb : (Instr.build t (parts.map fun (i, x) => (i, a.eval x))).run P w = .ok (.agg cs) w := by
    generalize (parts.map fun (i, x) => (i, a.eval x)) = ps at *
    subst hpm
    simp [Instr.build, run_zeroV hz, run_und hu, sizeOf, typeInfo, e1, e2, s1, s2, hf0, hg1, hf]
  simp [execOp, ho, hb]
/-- A slice's literal. -/
theorem Ops.bsG {o : Oper} {d t e sz m : Nat} {parts : Array (Nat × Operand)} {vs : List (Nat × Value)} {z : Value} {cs : Array Value} (ho : o.op = .buildSlice t m parts) (hd : o.dst = some d) (hg : o.guard = none)
    (ht : tyD P t = some (.slice e)) (hs : tyS P e = some sz) (hz : tyZ P e = some z) (hp : evP ρ parts.toList = some vs) (h0 : Nat.blt 0 (m * sz) = true) (h1 : Nat.ble (m * sz) 1000 = true)
    (hf : Instr.fill (fun i => some (i * sz, sz)) ((Array.range (m * sz)).map (fun q => z.cells[q % z.cells.size]!)) vs = some cs)
    (hk : ∀ w' r, Mk w w' r (.cells cs e) → Ops none P n ds all k Φ l ((d, .slice (some ⟨r, 0, none⟩) m m) :: ρ) w') : Ops none P n ds all k Φ (o :: l) ρ w := by
  refine Ops.val hd hg (fun a hr => ?_) (hk _ _ (mk_alloc w _))
  have h0' : 0 < m * sz := by simpa using h0
  have h1' : m * sz ≤ 1000 := by simpa using h1
  have hpm : (parts.map fun (i, x) => (i, a.eval x)).toList = vs := by rw [Array.toList_map]; exact evP_map hr hp
  have hb : (Instr.buildSlice t m (parts.map fun (i, x) => (i, a.eval x))).run P w = .ok (.slice (some ⟨w.heap.size, 0, none⟩) m m) (w.alloc (.cells cs e)) := by
    generalize (parts.map fun (i, x) => (i, a.eval x)) = ps at *
    subst hpm
    have hne : ¬ (m = 0 ∨ sz = 0) := by rintro (h | h) <;> subst h <;> simp at h0'
    simp [Instr.buildSlice, run_und (td_slice (tyD_ok ht)), run_sizeOf hs, run_zeroV hz, hf, newRow, newObj, Sem.run, hne, show ¬ (16777216 < m * sz) by omega]
    intro h
    omega
  simp [execOp, ho, hb]
end
end Go.Proofs.Ytdiljpnfochndaa.VW
