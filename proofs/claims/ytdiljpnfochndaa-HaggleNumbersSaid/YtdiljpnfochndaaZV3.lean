/- A part of the walk: what this seat's statements share. -/
import Derived.Test.YtdiljpnfochndaaZV2
import Derived.Laws.AppendOwn
import Derived.Laws.OwnMore
import Derived.Laws.MakeOwn
import Derived.Laws.Slices
set_option linter.unusedSectionVars false
set_option linter.unusedVariables false
set_option linter.unusedSimpArgs false
/- Operations on memory. -/
namespace Go.Proofs.Ytdiljpnfochndaa.VW
open Go Go.RowKit
/-- What w had stands in w', but for the blocks of S. -/
structure Kp (S : Nat → Prop) (w w' : World) : Prop where
  os : w'.os = w.os
  tape : w'.tape = w.tape
  output : w'.output = w.output
  size : w.heap.size ≤ w'.heap.size
  blk : ∀ i, i < w.heap.size → ¬ S i → w'.heap[i]? = w.heap[i]?
theorem Kp.refl (S : Nat → Prop) (w : World) : Kp S w w := ⟨rfl, rfl, rfl, Nat.le_refl _, fun _ _ _ => rfl⟩
theorem Kp.trans {S S' : Nat → Prop} {a b c : World} (h : Kp S a b) (k : Kp S' b c) : Kp (fun i => S i ∨ S' i) a c :=
  ⟨k.os.trans h.os, k.tape.trans h.tape, k.output.trans h.output, Nat.le_trans h.size k.size, fun i hi hn => (k.blk i (Nat.lt_of_lt_of_le hi h.size) (fun e => hn (.inr e))).trans (h.blk i hi (fun e => hn (.inl e)))⟩
theorem Kp.mono {S S' : Nat → Prop} {a b : World} (h : Kp S a b) (hs : ∀ i, i < a.heap.size → S i → S' i) : Kp S' a b := ⟨h.os, h.tape, h.output, h.size, fun i hi hn => h.blk i hi (fun e => hn (hs i hi e))⟩
/-- Steps that touch only what is new since w0. -/
theorem Kp.then {B : Nat} {S : Nat → Prop} {a b c : World} (h : Below B a b) (hB : B ≤ b.heap.size) (k : Kp S b c) (hs : ∀ i, S i → B ≤ i) : Below B a c :=
  ⟨k.os.trans h.os, k.tape.trans h.tape, k.output.trans h.output, Nat.le_trans h.size k.size, fun i hi => (k.blk i (by omega) (fun e => by have := hs i e; omega)).trans (h.block i hi)⟩
theorem Kp.below {S : Nat → Prop} {B : Nat} {a b : World} (h : Kp S a b) (hB : B ≤ a.heap.size) (hs : ∀ i, i < B → ¬ S i) : Below B a b := ⟨h.os, h.tape, h.output, h.size, fun i hi => h.blk i (by omega) (hs i hi)⟩
theorem Kp.of_below {S : Nat → Prop} {w w' : World} (h : Below w.heap.size w w') : Kp S w w' := ⟨h.os, h.tape, h.output, h.size, fun i hi _ => h.block i hi⟩
theorem Kp.of_grown {w w' : World} {row : Option Nat} (h : w.grownBy w' row) : Kp (fun i => some i = row) w w' := ⟨h.os, h.tape, h.output, h.size, fun i hi hn => h.block i hi hn⟩
theorem Kp.grown {S : Nat → Prop} {w w' : World} {row : Option Nat} (h : Kp S w w') (hs : ∀ i, S i → some i = row) : w.grownBy w' row := ⟨h.os, h.tape, h.output, h.size, fun i hi hn => h.blk i hi (fun e => hn (hs i e))⟩
/-- A block of cells of the call's own. -/
def Blk (w : World) (b : Nat) (cs : Array Value) (t : Nat) : Prop := w.heap[b]? = some (.cells cs t (0, 0))
theorem Blk.lt {w : World} {b t : Nat} {cs : Array Value} (h : Blk w b cs t) : b < w.heap.size := (Array.getElem?_eq_some_iff.1 h).1
theorem Blk.kp {S : Nat → Prop} {w w' : World} {b t : Nat} {cs : Array Value} (h : Blk w b cs t) (k : Kp S w w') (hs : ¬ S b) : Blk w' b cs t := (k.blk b h.lt hs).trans h
theorem Blk.cell {w : World} {b t : Nat} {cs : Array Value} (h : Blk w b cs t) {i : Nat} {v : Value} (hi : cs[i]? = some v) : w.cell? ⟨b, i, none⟩ = some v := by
  unfold Blk at h
  simp [World.cell?, h, hi]
theorem cell_kp {S : Nat → Prop} {w w' : World} (k : Kp S w w') {a : Addr} {v : Value} (h : w.cell? a = some v) (hs : ¬ S a.block) : w'.cell? a = some v :=
  (World.cell?_of_block (w := w) (k.blk a.block (World.block_lt_of_cell? w a h) hs)).trans h
theorem own_kp {S : Nat → Prop} {w w' : World} {base e size n : Nat} {v : Value} {xs : List Value} (h : w.ownsRow base e size v n xs) (k : Kp S w w') (hs : ∀ i, v.ownBlock = some i → ¬ S i) : w'.ownsRow base e size v n xs := by
  refine ⟨h.1, ?_⟩
  rcases h.2 with hn | ⟨g, cap, cur, rfl, hb, hgg, rest⟩
  · exact .inl hn
  · exact .inr ⟨g, cap, cur, rfl, hb, (k.blk g (Array.getElem?_eq_some_iff.1 hgg).1 (hs g rfl)).trans hgg, rest⟩
structure Mk (w w' : World) (r : Nat) (o : Obj) : Prop where
  r_eq : r = w.heap.size
  at_ : w'.heap[r]? = some o
  kp : Kp (fun _ => False) w w'
  size : w'.heap.size = w.heap.size + 1
theorem mk_alloc (w : World) (o : Obj) : Mk w (w.alloc o) w.heap.size o :=
  ⟨rfl, heap_alloc_new w o, ⟨rfl, rfl, rfl, by simp, fun i hi _ => heap_alloc_old w o i hi⟩, by simp⟩
structure Upd (w w' : World) (b : Nat) (cs : Array Value) (t : Nat) : Prop where
  blk : Blk w' b cs t
  kp : Kp (fun i => i = b) w w'
  size : w'.heap.size = w.heap.size
theorem upd_set {w : World} {b t : Nat} {cs : Array Value} (h : Blk w b cs t) (q : Nat) (v : Value) : Upd w (w.setCell ⟨b, q, none⟩ v) b (cs.setIfInBounds q v) t := by
  refine ⟨?_, ⟨rfl, rfl, rfl, by simp [World.setCell], fun i hi hn => Below.heap_setCell _ _ _ _ hn⟩, by simp [World.setCell]⟩
  unfold Blk at *
  simp [World.setCell, Array.getElem?_modify, h]
def tyD (P : Program) [Tab P] (t : Nat) : Option TD := (ty P t).map (·.d)
def tyS (P : Program) [Tab P] (t : Nat) : Option Nat := (ty P t).map (·.size)
def tyB (P : Program) [Tab P] (t : Nat) : Option Nat := (ty P t).map (·.bytes)
def tyZ (P : Program) [Tab P] (t : Nat) : Option Value := (ty P t).map (·.zero)
def tyAgg (P : Program) [Tab P] (t : Nat) : Option Bool := (ty P t).map (fun e => isAggB e.d)
section
variable {P : Program} [hT : Tab P] {n : Nat} {ds : List Deferred} {Φ : Post} {k : List It} {ρ : E} {w : World} {all : Array Oper} {l : List Oper} {md : Option (List Oper)}
theorem tyD_ok {t : Nat} {d : TD} (h : tyD P t = some d) : tdOf P t = some d := by
  unfold tyD at h
  cases hx : ty P t with
  | none => rw [hx] at h; simp at h
  | some e => rw [hx] at h; simp at h; subst h; exact (ty_ok hx).1
theorem tyS_ok {t s : Nat} (h : tyS P t = some s) : ∃ i, P.info? t = some i ∧ i.size = s := by
  unfold tyS at h
  cases hx : ty P t with
  | none => rw [hx] at h; simp at h
  | some e => rw [hx] at h; simp at h; subst h; obtain ⟨_, i, hi, hs, _⟩ := ty_ok hx; exact ⟨i, hi, hs⟩
theorem run_sizeOf {t s : Nat} (h : tyS P t = some s) : (sizeOf t).run P w = .ok s w := by
  obtain ⟨i, hi, hs⟩ := tyS_ok h
  simp [sizeOf, typeInfo, hi, hs]
theorem run_typeInfo {t : Nat} {e : Ty} (h : ty P t = some e) : ∃ i, (typeInfo t).run P w = .ok i w ∧ i.size = e.size ∧ i.bytes = e.bytes ∧ i.zero = some e.zero := by
  obtain ⟨_, i, hi, hs⟩ := ty_ok h
  exact ⟨i, by simp [typeInfo, hi], hs⟩
theorem run_zeroV {t : Nat} {z : Value} (h : tyZ P t = some z) : (zeroValue t).run P w = .ok z w := by
  unfold tyZ at h
  cases hx : ty P t with
  | none => rw [hx] at h; simp at h
  | some e =>
    rw [hx] at h; simp at h; subst h
    obtain ⟨_, i, hi, hs, hb, hz⟩ := ty_ok hx
    simp [zeroValue, typeInfo, hi, hz]
theorem run_isAgg {t : Nat} {b : Bool} (h : tyAgg P t = some b) : (isAgg t).run P w = .ok b w := by
  unfold tyAgg at h
  cases hx : ty P t with
  | none => rw [hx] at h; simp at h
  | some e =>
    rw [hx] at h; simp at h
    have hd := (ty_ok hx).1
    unfold tdOf at hd
    cases hu : P.underlying t with
    | none => rw [hu] at hd; simp at hd
    | some d =>
      rw [hu] at hd
      cases d <;> simp at hd <;> rw [← hd] at h <;> simp [isAggB] at h <;> subst h <;> simp [isAgg, underlying, hu]
omit hT in
theorem run_und {t : Nat} {d : TypeDesc} (h : P.underlying t = some d) : (underlying t).run P w = .ok d w := by simp [underlying, h]
/-- len of a slice. -/
theorem Ops.len {o : Oper} {d t e m c : Nat} {x : Operand} {A : Option Addr} (ho : o.op = .call { callee := .builtin .len, args := #[x], argTypes := #[t] }) (hd : o.dst = some d) (hg : o.guard = none)
    (ht : tyD P t = some (.slice e)) (hx : ev ρ x = some (.slice A m c)) (hk : Ops md P n ds all k Φ l ((d, .int .i64 m) :: ρ) w) : Ops md P n ds all k Φ (o :: l) ρ w := by
  refine Ops.valS hd hg (fun a hr => ?_) hk
  have hu := td_slice (tyD_ok ht)
  simp [execOp, ho, resolve, hr.ev hx, invoke, builtin, Builtin.len_, run_und hu, goInt]
/-- An element's address. -/
theorem Ops.idx {o : Oper} {d t e sz m c : Nat} {x y : Operand} {A : Addr} {i : Int} (ho : o.op = .indexAddr t x y) (hd : o.dst = some d) (hg : o.guard = none)
    (ht : tyD P t = some (.slice e)) (hs : tyS P e = some sz) (hx : ev ρ x = some (.slice (some A) m c)) (hy : ev ρ y = some (.int .i64 i)) (h0 : 0 ≤ i) (h1 : i < m)
    (hk : Ops md P n ds all k Φ l ((d, .pointer (some (A.add (i.toNat * sz)))) :: ρ) w) : Ops md P n ds all k Φ (o :: l) ρ w := by
  refine Ops.valS hd hg (fun a hr => ?_) hk
  have hu := td_slice (tyD_ok ht)
  simp [execOp, ho, Instr.indexAt, asIntOf, hr.ev hx, hr.ev hy, run_und hu, run_sizeOf hs, h0, h1]
/-- A field's address. -/
def foff : List (Nat × Nat) → Nat → Option (Nat × Nat)
  | [], _ => none
  | (a, b) :: _, 0 => some (a, b)
  | _ :: r, i + 1 => foff r i
theorem foff_eq : ∀ (l : List (Nat × Nat)) (i : Nat), foff l i = l[i]?
  | [], _ => by simp [foff]
  | (_, _) :: _, 0 => by simp [foff]
  | _ :: r, i + 1 => by simp [foff, foff_eq r i]
def fieldOff (P : Program) [Tab P] (t i : Nat) : Option (Nat × Nat) := match tyD P t with
  | some (.struct fs) => foff fs i
  | _ => none
theorem fieldOff_ok {t i off sz : Nat} (h : fieldOff P t i = some (off, sz)) : ∃ gs f, P.underlying t = some (.struct gs) ∧ gs[i]? = some f ∧ f.offset = off ∧ ((P.info? f.type).map (·.size)).getD 0 = sz := by
  unfold fieldOff at h
  split at h
  · rename_i fs hfs
    obtain ⟨gs, hu, hm⟩ := td_struct (tyD_ok hfs)
    rw [foff_eq, ← hm] at h
    simp at h
    obtain ⟨f, hf, h1, h2⟩ := h
    exact ⟨gs, f, hu, hf, h1, h2⟩
  · simp at h
theorem Ops.fld {o : Oper} {d t i off sz : Nat} {x : Operand} {p : Addr} (ho : o.op = .fieldAddr t x i) (hd : o.dst = some d) (hg : o.guard = none)
    (ht : fieldOff P t i = some (off, sz + 1)) (hx : ev ρ x = some (.pointer (some p))) (hk : Ops md P n ds all k Φ l ((d, .pointer (some (p.add off))) :: ρ) w) : Ops md P n ds all k Φ (o :: l) ρ w := by
  refine Ops.valS hd hg (fun a hr => ?_) hk
  obtain ⟨gs, f, hu, hf, h1, h2⟩ := fieldOff_ok ht
  cases hi : P.info? f.type with
  | none => rw [hi] at h2; simp at h2
  | some j =>
    rw [hi] at h2
    simp at h2
    simp [execOp, ho, Instr.fieldAt, Instr.sureAddr, hr.ev hx, run_und hu, hf, fieldPlace, sizeOf, typeInfo, hi, h2, h1]
/-- The same at a plain address. -/
theorem add_lit (b q j : Nat) : (⟨b, q, none⟩ : Addr).add j = ⟨b, q + j, none⟩ := by unfold Addr.add; split <;> simp_all
theorem Ops.flp {o : Oper} {d t i off sz b q : Nat} {x : Operand} (ho : o.op = .fieldAddr t x i) (hd : o.dst = some d) (hg : o.guard = none)
    (ht : fieldOff P t i = some (off, sz + 1)) (hx : ev ρ x = some (.pointer (some ⟨b, q, none⟩))) (hk : Ops md P n ds all k Φ l ((d, .pointer (some ⟨b, q + off, none⟩)) :: ρ) w) : Ops md P n ds all k Φ (o :: l) ρ w :=
  Ops.fld ho hd hg ht hx (by rw [add_lit]; exact hk)
/-- A load of one cell. -/
theorem Ops.ld {o : Oper} {d t : Nat} {x : Operand} {p : Addr} {v : Value} (ho : o.op = .load t x) (hd : o.dst = some d) (hg : o.guard = none)
    (ht : tyAgg P t = some false) (hx : ev ρ x = some (.pointer (some p))) (hc : w.cell? p = some v) (hk : Ops md P n ds all k Φ l ((d, v) :: ρ) w) : Ops md P n ds all k Φ (o :: l) ρ w := by
  refine Ops.valS hd hg (fun a hr => ?_) hk
  simp [execOp, ho, Instr.loadAt, Instr.sureAddr, hr.ev hx, loadVar, run_isAgg ht, load, Sem.run, hc]
/-- A load out of a block that is known. -/
theorem Ops.ldB {o : Oper} {d t b q t' : Nat} {x : Operand} {cs : Array Value} {v : Value} (ho : o.op = .load t x) (hd : o.dst = some d) (hg : o.guard = none)
    (ht : tyAgg P t = some false) (hx : ev ρ x = some (.pointer (some ⟨b, q, none⟩))) (hb : Blk w b cs t') (hi : nth cs.toList q = some v) (hk : Ops md P n ds all k Φ l ((d, v) :: ρ) w) : Ops md P n ds all k Φ (o :: l) ρ w :=
  Ops.ld ho hd hg ht hx (hb.cell (by rw [nth_eq, Array.getElem?_toList] at hi; exact hi)) hk
/-- A load of two cells. -/
theorem Ops.ld2 {o : Oper} {d t : Nat} {x : Operand} {p : Addr} {v u : Value} (ho : o.op = .load t x) (hd : o.dst = some d) (hg : o.guard = none)
    (ht : tyAgg P t = some true) (hs : tyS P t = some 2) (hx : ev ρ x = some (.pointer (some p))) (hc : w.cell? p = some v) (hc2 : w.cell? (p.add 1) = some u)
    (hk : Ops md P n ds all k Φ l ((d, .agg #[v, u]) :: ρ) w) : Ops md P n ds all k Φ (o :: l) ρ w := by
  refine Ops.valS hd hg (fun a hr => ?_) hk
  have e0 : p.add 0 = p := by simp [Addr.add]
  simp [execOp, ho, Instr.loadAt, Instr.sureAddr, hr.ev hx, loadVar, run_isAgg ht, run_sizeOf hs, loadCells, loadCellsFrom, load, Sem.run, hc, hc2, e0]
/-- A store of one cell into a block of the call's own. -/
theorem run_store1 {t b q : Nat} {v : Value} {cs : Array Value} {t' : Nat} (hs : tyS P t = some 1) (h1 : v.oneCell' = true) (hb : Blk w b cs t') (hq : q < cs.size) :
    (Instr.storeAt t (.pointer (some ⟨b, q, none⟩)) v).run P w = .ok () (w.setCell ⟨b, q, none⟩ v) := by
  have hc : w.cell? ⟨b, q, none⟩ = some cs[q] := hb.cell (by simp [hq])
  have hf : w.frozen? ⟨b, q, none⟩ = false := by
    unfold Blk at hb
    simp [World.frozen?, hb]
  have hcs : v.cells = #[v] := by cases v <;> simp_all [Value.oneCell', Value.cells]
  have e0 : (⟨b, q, none⟩ : Addr).add 0 = ⟨b, q, none⟩ := by simp [Addr.add]
  cases v <;> simp_all [Value.oneCell', Instr.storeAt, Instr.sureAddr, storeVar, run_sizeOf hs, storeCells, store, Sem.run]
theorem Ops.st {o : Oper} {t b q t' : Nat} {x y : Operand} {v : Value} {cs : Array Value} (ho : o.op = .store t x y) (hd : o.dst = none) (hg : o.guard = none)
    (hs : tyS P t = some 1) (hx : ev ρ x = some (.pointer (some ⟨b, q, none⟩))) (hy : ev ρ y = some v) (h1 : v.oneCell' = true) (hb : Blk w b cs t') (hq : q < cs.size)
    (hk : ∀ w', Upd w w' b (cs.setIfInBounds q v) t' → Ops none P n ds all k Φ l ρ w') : Ops none P n ds all k Φ (o :: l) ρ w := by
  refine Ops.unit hg hd (fun a hr => ?_) (hk _ (upd_set hb q v))
  simp [execOp, ho, hr.ev hx, hr.ev hy, run_store1 hs h1 hb hq]
/-- New variables. -/
theorem Ops.alloc {o : Oper} {d t : Nat} {z : Value} (ho : o.op = .alloc t) (hd : o.dst = some d) (hg : o.guard = none) (hz : tyZ P t = some z)
    (hk : ∀ w' r, Mk w w' r (.cells z.cells t) → Ops none P n ds all k Φ l ((d, .pointer (some ⟨r, 0, none⟩)) :: ρ) w') : Ops none P n ds all k Φ (o :: l) ρ w := by
  refine Ops.val hd hg (fun a hr => ?_) (hk _ _ (mk_alloc w _))
  simp [execOp, ho, Instr.alloc, run_zeroV hz, newVar, newRow, newObj, Sem.run]
theorem Ops.box {o : Oper} {d t : Nat} {x : Operand} {v : Value} (ho : o.op = .box t x) (hd : o.dst = some d) (hg : o.guard = none) (hx : ev ρ x = some v)
    (hk : ∀ w' r, Mk w w' r (.cells v.cells t) → Ops none P n ds all k Φ l ((d, .pointer (some ⟨r, 0, none⟩)) :: ρ) w') : Ops none P n ds all k Φ (o :: l) ρ w := by
  refine Ops.val hd hg (fun a hr => ?_) (hk _ _ (mk_alloc w _))
  simp [execOp, ho, Instr.box, hr.ev hx, newVar, newRow, newObj, Sem.run]
/-! ### Calls -/
def callOk (P : Program) (f : Nat) : Bool := match P.funcs[f]? with
  | some fn => !(fn.name == "runtime.NumGoroutine") && fn.body.isSome
  | none => false
omit hT in
theorem run_callFunc {f : Nat} {args : Array Value} (h : callOk P f = true) : (callFunc f args).run P w = .ok (.enter f args) w := by
  unfold callOk at h
  cases hf : P.funcs[f]? with
  | none => rw [hf] at h; simp at h
  | some fn =>
    rw [hf] at h
    simp at h
    obtain ⟨h1, h2⟩ := h
    cases hb : fn.body with
    | none => rw [hb] at h2; simp at h2
    | some b => simp [callFunc, program, hf, h1, hb, Sem.run]
def app1 : List Value → List Value → List Value
  | [], b => b
  | v :: a, b => v :: app1 a b
theorem app1_eq : ∀ (a b : List Value), app1 a b = a ++ b
  | [], b => rfl
  | v :: a, b => by simp [app1, app1_eq a b]
def app3 (a b c : List Value) : List Value := app1 a (app1 b c)
theorem app3_eq (a b c : List Value) : app3 a b c = a ++ b ++ c := by simp [app3, app1_eq]
/-- The function and the arguments of a call. -/
def callV (ρ : E) (c : Call) : Option (Nat × List Value) := match c.callee with
  | .value g => match ev ρ g, evs ρ c.args.toList with
    | some (.func (.func f) first cap), some vs => some (f, app3 first.toList vs cap.toList)
    | _, _ => none
  | _ => none
omit hT in
theorem run_callV {o : Oper} {c : Call} (ho : o.op = .call c) {f : Nat} {vs : List Value} (h : callV ρ c = some (f, vs)) (hc : callOk P f = true) {a : Act} (hr : Rep n a ρ) :
    (execOp a.eval o).run P w = .ok (.enter f vs.toArray) w := by
  unfold callV at h
  split at h
  · rename_i g hg
    split at h
    · rename_i f' first cap us h1 h2
      simp at h
      obtain ⟨rfl, rfl⟩ := h
      have q : c.args.map a.eval = us.toArray := by apply Array.toList_inj.1; simpa using evs_map hr h2
      have hcall := run_callFunc (P := P) (w := w) (args := first ++ us.toArray ++ cap) hc
      have e : (app3 first.toList us cap.toList).toArray = first ++ us.toArray ++ cap := by rw [app3_eq]; apply Array.toList_inj.1; simp
      rw [e, ← hcall]
      simp [execOp, ho, resolve, hg, hr.ev h1, Deferred.ofValue, invoke, q]
    · simp at h
  · simp at h
/-- What a call that returns a value leaves. -/
def Ret (R : Value → World → Prop) (e : Ending) (w : World) : Prop := ∃ v, e = .returned v ∧ R v w
theorem Ret.mk {R : Value → World → Prop} {v : Value} {w : World} (h : R v w) : Ret R (.returned v) w := ⟨v, rfl, h⟩
class Fns (P : Program) where
  L : List Nat
  ok : L.all (callOk P) = true
def memB : List Nat → Nat → Bool
  | [], _ => false
  | a :: r, t => bif Nat.beq a t then true else memB r t
theorem memB_mem : ∀ {l : List Nat} {t : Nat}, memB l t = true → t ∈ l
  | [], _, h => by simp [memB] at h
  | a :: r, t, h => by
    simp only [memB] at h
    cases hb : Nat.beq a t with
    | true => rw [Nat.eq_of_beq_eq_true hb]; simp
    | false => rw [hb] at h; exact List.mem_cons_of_mem _ (memB_mem h)
omit hT in
theorem Fns.call [h : Fns P] {f : Nat} (hf : memB h.L f = true) : callOk P f = true := (List.all_eq_true.1 h.ok) f (memB_mem hf)
omit hT in
/-- A call of a function that has a contract. -/
theorem Ops.call [hF : Fns P] {o : Oper} {c : Call} {d : Option Tmp} {f : Nat} {vs : List Value} {R : Value → World → Prop} (ho : o.op = .call c) (hd : o.dst = d) (hg : o.guard = none) (hv : callV ρ c = some (f, vs)) (hf : memB hF.L f = true)
    (hc : Calls P f vs.toArray w (Ret R)) (hk : ∀ v w', R v w' → Ops none P n ds all k Φ l (put d v ρ) w') : Ops none P n ds all k Φ (o :: l) ρ w :=
  Ops.enter hg hd (fun _ hr => run_callV ho hv (Fns.call hf) hr) hc fun e w' ⟨v, he, hR⟩ => ⟨v, he, hk v w' hR⟩
omit hT in
/-- A call that leaves the world alone. -/
theorem Ops.callS [hF : Fns P] {o : Oper} {c : Call} {d : Nat} {f : Nat} {vs : List Value} {v : Value} (ho : o.op = .call c) (hd : o.dst = some d) (hg : o.guard = none) (hv : callV ρ c = some (f, vs)) (hf : memB hF.L f = true)
    (hc : Calls P f vs.toArray w (Ret fun v' w' => v' = v ∧ w' = w)) (hk : Ops md P n ds all k Φ l ((d, v) :: ρ) w) : Ops md P n ds all k Φ (o :: l) ρ w :=
  Ops.enterS hg hd (fun _ hr => run_callV ho hv (Fns.call hf) hr) hc (fun e w' ⟨v', he, h⟩ => by obtain ⟨rfl, rfl⟩ := h; exact ⟨he, rfl⟩) hk
/-- Rests and quotients. -/
theorem Ops.rem {o : Oper} {u v : Int} {d t t' : Nat} {x y : Operand} (ho : o.op = .binOp .rem t x y t') (hd : o.dst = some d) (hg : o.guard = none) (hx : ev ρ x = some (.int .i64 u)) (hy : ev ρ y = some (.int .i64 v)) (hv : v ≠ 0)
    (hk : Ops md P n ds all k Φ l ((d, .int .i64 (u.tmod v)) :: ρ) w) : Ops md P n ds all k Φ (o :: l) ρ w := by
  refine Ops.valS hd hg (fun a hr => ?_) hk
  simp only [execOp, ho, hr.ev hx, hr.ev hy]
  simp [eqGuard, binOp, Op.intDiv, hv, go_sem]
/-- A struct of two fields of one cell. -/
theorem Ops.bld2 {o : Oper} {d t : Nat} {x y : Operand} {u v z0 z1 : Value} (ho : o.op = .build t #[(0, x), (1, y)]) (hd : o.dst = some d) (hg : o.guard = none)
    (ht : tyD P t = some (.struct [(0, 1), (1, 1)])) (hz : tyZ P t = some (.agg #[z0, z1])) (hx : ev ρ x = some u) (hy : ev ρ y = some v) (h1 : u.oneCell' = true) (h2 : v.oneCell' = true)
    (hk : Ops md P n ds all k Φ l ((d, .agg #[u, v]) :: ρ) w) : Ops md P n ds all k Φ (o :: l) ρ w := by
  refine Ops.valS hd hg (fun a hr => ?_) hk
  obtain ⟨gs, hu, hm⟩ := td_struct (tyD_ok ht)
  have hsz : ∃ f g, gs = #[f, g] ∧ f.offset = 0 ∧ g.offset = 1 ∧ ((P.info? f.type).map (·.size)).getD 0 = 1 ∧ ((P.info? g.type).map (·.size)).getD 0 = 1 := by
    obtain ⟨L⟩ := gs
    rcases L with _ | ⟨f, _ | ⟨g, _ | ⟨h, r⟩⟩⟩
    · simp at hm
    · simp at hm
    · simp at hm; exact ⟨f, g, rfl, hm.1.1, hm.2.1, hm.1.2, hm.2.2⟩
    · simp at hm
  obtain ⟨f, g, rfl, hf0, hg1, hfs, hgs⟩ := hsz
  have q1 : ∃ i, P.info? f.type = some i ∧ i.size = 1 := by
    cases hi : P.info? f.type with
    | none => rw [hi] at hfs; simp at hfs
    | some i => rw [hi] at hfs; exact ⟨i, rfl, by simpa using hfs⟩
  have q2 : ∃ i, P.info? g.type = some i ∧ i.size = 1 := by
    cases hi : P.info? g.type with
    | none => rw [hi] at hgs; simp at hgs
    | some i => rw [hi] at hgs; exact ⟨i, rfl, by simpa using hgs⟩
  obtain ⟨i1, e1, s1⟩ := q1
  obtain ⟨i2, e2, s2⟩ := q2
  have hcu : u.cells = #[u] := by cases u <;> simp_all [Value.oneCell', Value.cells]
  have hcv : v.cells = #[v] := by cases v <;> simp_all [Value.oneCell', Value.cells]
  have hcz : (Value.agg #[z0, z1]).cells = #[z0, z1] := rfl
  simp only [execOp, ho]
  simp [Instr.build, hr.ev hx, hr.ev hy, run_zeroV hz, run_und hu, sizeOf, typeInfo, e1, e2, s1, s2, hf0, hg1, Instr.fill, hcu, hcv, hcz]
/-! ### Slices -/
theorem tyE_ok {e sz by' : Nat} {z : Value} (hs : tyS P e = some sz) (hb : tyB P e = some by') (hz : tyZ P e = some z) : ∃ i, P.info? e = some i ∧ i.size = sz ∧ i.bytes = by' ∧ i.zero = some z := by
  unfold tyS at hs
  unfold tyB at hb
  unfold tyZ at hz
  cases hx : ty P e with
  | none => rw [hx] at hs; simp at hs
  | some u =>
    rw [hx] at hs hb hz
    simp at hs hb hz
    obtain ⟨_, i, hi, h1, h2, h3⟩ := ty_ok hx
    exact ⟨i, hi, h1.trans hs, h2.trans hb, by rw [h3, hz]⟩
theorem madeCells_one {z : Value} (h : z.cells = #[z]) (n : Nat) : (madeCells z.cells n).toList = List.replicate n z := by
  rw [h]
  apply List.ext_getElem
  · simp [madeCells]
  · intro i h1 h2
    simp [madeCells, Nat.mod_one]
/-- make([]T, n): n elements of zero. -/
theorem Ops.mkS {o : Oper} {d t e sz by' : Nat} {x y : Operand} {z : Value} {i : Int} (ho : o.op = .makeSlice t x y) (hd : o.dst = some d) (hg : o.guard = none)
    (ht : tyD P t = some (.slice e)) (hs : tyS P e = some sz) (hb : tyB P e = some (by' + 1)) (hz : tyZ P e = some z) (hx : ev ρ x = some (.int .i64 i)) (hy : ev ρ y = some (.int .i64 i)) (h0 : 0 ≤ i) (h1 : i.toNat * (by' + 1) ≤ 140737488355328)
    (hk : ∀ w' r, r = w.heap.size → Kp (fun _ => False) w w' → r < w'.heap.size → w'.ownsRow 0 e sz (.slice (some ⟨r, 0, none⟩) i.toNat i.toNat) i.toNat (madeCells z.cells (i.toNat * sz)).toList → Ops none P n ds all k Φ l ((d, .slice (some ⟨r, 0, none⟩) i.toNat i.toNat) :: ρ) w') : Ops none P n ds all k Φ (o :: l) ρ w := by
  obtain ⟨f, hi, h2, h3, h4⟩ := tyE_ok hs hb hz
  obtain ⟨m, rfl⟩ := Int.eq_ofNat_of_zero_le h0
  simp only [Int.toNat_natCast] at h1 hk
  have h5 : m ≤ m * (by' + 1) := Nat.le_mul_of_pos_right m (by omega)
  obtain ⟨w', hr, hown, hgr⟩ := run_make_full (P := P) w 0 t e f z sz (td_slice (tyD_ok ht)) hi h4 h2 .i64 .i64 m (by rw [h3, Nat.mul_comm]; omega) (by simp only [maxLen]; omega) (Nat.zero_le _)
  refine Ops.val hd hg (fun a hr' => ?_) (hk w' _ rfl ((Kp.of_grown hgr).mono (by simp)) (hown.lt _ rfl).2 hown)
  simp [execOp, ho, hr'.ev hx, hr'.ev hy, hr]
/-- A literal of one element of one cell. -/
theorem Ops.bs1 {o : Oper} {d t e : Nat} {x : Operand} {v z : Value} (ho : o.op = .buildSlice t 1 #[(0, x)]) (hd : o.dst = some d) (hg : o.guard = none)
    (ht : tyD P t = some (.slice e)) (hs : tyS P e = some 1) (hz : tyZ P e = some z) (hzs : z.cells.size = 1) (hx : ev ρ x = some v) (h1 : v.oneCell' = true)
    (hk : ∀ w' r, Mk w w' r (.cells #[v] e) → Ops none P n ds all k Φ l ((d, .slice (some ⟨r, 0, none⟩) 1 1) :: ρ) w') : Ops none P n ds all k Φ (o :: l) ρ w := by
  refine Ops.val hd hg (fun a hr => ?_) (hk _ _ (mk_alloc w _))
  have hcs : v.cells = #[v] := by cases v <;> simp_all [Value.oneCell', Value.cells]
  have hr1 : (Array.range 1 : Array Nat) = #[0] := by rfl
  simp [execOp, ho, Instr.buildSlice, hr.ev hx, run_und (td_slice (tyD_ok ht)), run_sizeOf hs, run_zeroV hz, hr1, Instr.fill, hcs, newRow, newObj, Sem.run]
theorem own_one {w w' : World} {r e : Nat} {v : Value} (h : Mk w w' r (.cells #[v] e)) : w'.ownsRow 0 e 1 (.slice (some ⟨r, 0, none⟩) 1 1) 1 [v] :=
  ⟨rfl, .inr ⟨r, 1, #[v], rfl, Nat.zero_le _, h.at_, Nat.le_refl _, by simp [maxLen], rfl, rfl⟩⟩
theorem own_nil (w : World) (e sz : Nat) : w.ownsRow 0 e sz (.slice none 0 0) 0 [] := World.ownsRow_nil w 0 e sz
/-- append. -/
theorem run_app {t ty' e sz by' : Nat} {v z : Value} {m c nn : Nat} {A : Addr} {xs news : List Value} (ht : tyD P t = some (.slice e)) (hs : tyS P e = some (sz + 1)) (hb : tyB P e = some (by' + 1)) (hz : tyZ P e = some z) (hzs : z.cells.size = sz + 1)
    (hown : w.ownsRow 0 e (sz + 1) v nn xs) (hl : news.length = m * (sz + 1)) (hnews : ∀ j u, news[j]? = some u → w.cell? (A.add j) = some u) (h1 : ∀ u ∈ news, u.oneCell' = true) (hbytes : (nn + m) * (by' + 1) ≤ 140737488355328) :
    ∃ v' w', (Builtin.append_ #[t, t] ty' #[v, .slice (some A) m c]).run P w = .ok v' w' ∧ w'.ownsRow 0 e (sz + 1) v' (nn + m) (xs ++ news) ∧ Kp (fun i => v.ownBlock = some i) w w' ∧ (∀ i, v'.ownBlock = some i → v.ownBlock = some i ∨ w.heap.size ≤ i) := by
  obtain ⟨f, hi, h2, h3, h4⟩ := tyE_ok hs hb hz
  have h5 : nn + m ≤ (nn + m) * (by' + 1) := Nat.le_mul_of_pos_right _ (by omega)
  obtain ⟨v', w', hr, ho', hg', hnil⟩ := run_append_own (P := P) w 0 t ty' e f z (sz + 1) (by' + 1) (td_slice (tyD_ok ht)) hi h4 h2 h3 hzs (by omega) v nn xs hown A m c news hl hnews h1 (by simp only [maxLen]; omega) hbytes (Nat.zero_le _)
  refine ⟨v', w', hr, ho', (Kp.of_grown hg').mono (fun i _ e => e.symm), fun i hi' => ?_⟩
  rcases hown.2 with ⟨rfl, rfl⟩ | ⟨g, cap, cur, rfl, hbg, hgg, hnc, hcm, hcs, htake⟩
  · by_cases hm : m = 0
    · have : v' = .slice none 0 0 := hnil.2 ⟨rfl, hm⟩
      subst this
      simp [Value.ownBlock] at hi'
    · have hr2 := run_append_nil (P := P) w t ty' e f z (td_slice (tyD_ok ht)) hi h4 A m c news (by rw [h2]; exact hl) hnews (by omega) (by omega) (by rw [h3]; simp only [Nat.zero_add] at hbytes; omega)
      rw [hr] at hr2
      simp only [Result.ok.injEq] at hr2
      rw [hr2.1] at hi'
      simp [Value.ownBlock] at hi'
      exact .inr (by omega)
  · by_cases hroom : nn + m ≤ cap
    · have hr2 := run_append_room (P := P) w t ty' e f (td_slice (tyD_ok ht)) hi g nn cap cur hgg A m c news (by rw [h2]; exact hl) hnews h1 hroom (by rw [h2, hl, hcs, ← Nat.add_mul]; exact Nat.mul_le_mul_right _ hroom)
      rw [hr] at hr2
      simp only [Result.ok.injEq] at hr2
      rw [hr2.1] at hi'
      exact .inl hi'
    · have hr2 := run_append_grow (P := P) w t ty' e f z (td_slice (tyD_ok ht)) hi h4 ⟨g, 0, none⟩ nn cap xs (by rw [h2]; exact hown.1) (hown.cells (g := g) rfl) A m c news (by rw [h2]; exact hl) hnews (by omega) (by omega) (by rw [h3]; exact growslice_fits (by omega) hbytes)
      rw [hr] at hr2
      simp only [Result.ok.injEq] at hr2
      rw [hr2.1] at hi'
      simp [Value.ownBlock] at hi'
      exact .inr (by omega)
theorem Ops.app {o : Oper} {d t e sz by' : Nat} {x y : Operand} {v z : Value} {m c nn : Nat} {A : Addr} {xs news : List Value} (ho : o.op = .call { callee := .builtin .append, args := #[x, y], argTypes := #[t, t] }) (hd : o.dst = some d) (hg : o.guard = none)
    (ht : tyD P t = some (.slice e)) (hs : tyS P e = some (sz + 1)) (hb : tyB P e = some (by' + 1)) (hz : tyZ P e = some z) (hzs : z.cells.size = sz + 1) (hx : ev ρ x = some v) (hy : ev ρ y = some (.slice (some A) m c))
    (hown : w.ownsRow 0 e (sz + 1) v nn xs) (hl : news.length = m * (sz + 1)) (hnews : ∀ j u, news[j]? = some u → w.cell? (A.add j) = some u) (h1 : ∀ u ∈ news, u.oneCell' = true) (hbytes : (nn + m) * (by' + 1) ≤ 140737488355328)
    (hk : ∀ v' w', w'.ownsRow 0 e (sz + 1) v' (nn + m) (xs ++ news) → Kp (fun i => v.ownBlock = some i) w w' → (∀ i, v'.ownBlock = some i → v.ownBlock = some i ∨ w.heap.size ≤ i) → Ops none P n ds all k Φ l ((d, v') :: ρ) w') : Ops none P n ds all k Φ (o :: l) ρ w := by
  obtain ⟨v', w', hr, h2, h3, h4⟩ := run_app (P := P) (w := w) (ty' := o.type) (c := c) ht hs hb hz hzs hown hl hnews h1 hbytes
  refine Ops.val hd hg (fun a hr' => ?_) (hk v' w' h2 h3 h4)
  simp [execOp, ho, resolve, invoke, builtin, hr'.ev hx, hr'.ev hy, hr]
end
end Go.Proofs.Ytdiljpnfochndaa.VW
