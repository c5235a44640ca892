/- A part of the walk: what this seat's statements share. -/
import Derived.Test.YtdiljpnfochndaaZV8
import Derived.Scope
set_option linter.unusedSectionVars false
set_option linter.unusedVariables false
set_option linter.unusedSimpArgs false
/- Maps from ints to true. -/
namespace Go.Proofs.Ytdiljpnfochndaa.VW
open Go Go.RowKit
def kvI (k : Int) : Value × Value := (.int .i64 k, .bool true)
/-- Block b is a map in which the numbers of f stand, with true. -/
def MapB (w : World) (b : Nat) (f : Int → Bool) : Prop := ∃ (es : Array MapEntry) (c : Nat) (ks : List Int), w.heap[b]? = some (.map es c) ∧ es.toList.map (fun e => (e.key, e.val)) = ks.map kvI ∧ ∀ k, f k = ks.contains k
theorem MapB.kp {w w' : World} {b : Nat} {f : Int → Bool} {S : Nat → Prop} (h : MapB w b f) (k : Kp S w w') (hs : ¬ S b) : MapB w' b f := by
  obtain ⟨es, c, ks, hb, h1, h2⟩ := h
  exact ⟨es, c, ks, by rw [k.blk b (Array.getElem?_eq_some_iff.1 hb).1 hs]; exact hb, h1, h2⟩
theorem MapB.lt {w : World} {b : Nat} {f : Int → Bool} (h : MapB w b f) : b < w.heap.size := by
  obtain ⟨es, c, ks, hb, h1, h2⟩ := h
  exact (Array.getElem?_eq_some_iff.1 hb).1
theorem findNow_in {x : Int} : ∀ {ks : List Int} {es : List MapEntry} {i : Nat}, es.map (fun e => (e.key, e.val)) = ks.map kvI → ks.contains x = true → ∃ j, i ≤ j ∧ Instr.findNow (.int .i64) (.int .i64 x) es i = some (some (j, .bool true)) ∧ (es[j - i]?).map (·.key) = some (.int .i64 x)
  | [], _, _, _, h => by simp at h
  | k :: ks, [], _, h, _ => by simp at h
  | k :: ks, e :: es, i, h, hx => by
    simp only [List.map_cons, List.cons.injEq, kvI, Prod.mk.injEq] at h
    obtain ⟨⟨hk, hv⟩, h⟩ := h
    simp only [Instr.findNow, hk, hv, Instr.sameNow]
    by_cases e1 : x = k
    · subst e1
      exact ⟨i, Nat.le_refl _, by simp, by simp [hk]⟩
    · have hx' : ks.contains x = true := by simp [e1] at hx; simpa using hx
      obtain ⟨j, h1, h2, h3⟩ := findNow_in (i := i + 1) h hx'
      have e2 : (x == k) = false := by simpa using e1
      refine ⟨j, by omega, by simp only [e2]; exact h2, ?_⟩
      rw [show j - i = (j - (i + 1)) + 1 by omega]
      simpa using h3
theorem findNow_out {x : Int} : ∀ {ks : List Int} {es : List MapEntry} {i : Nat}, es.map (fun e => (e.key, e.val)) = ks.map kvI → ks.contains x = false → Instr.findNow (.int .i64) (.int .i64 x) es i = some none
  | [], [], _, _, _ => rfl
  | [], _ :: _, _, h, _ => by simp at h
  | k :: ks, [], _, h, _ => by simp at h
  | k :: ks, e :: es, i, h, hx => by
    simp only [List.map_cons, List.cons.injEq, kvI, Prod.mk.injEq] at h
    obtain ⟨⟨hk, hv⟩, h⟩ := h
    simp only [Instr.findNow, hk, hv, Instr.sameNow]
    simp only [List.contains_cons, Bool.or_eq_false_iff, beq_eq_false_iff_ne] at hx
    have e2 : (x == k) = false := by simpa using hx.1
    simp only [e2]
    exact findNow_out h hx.2
section
variable {P : Program} [hT : Tab P] {n : Nat} {ds : List Deferred} {Φ : Post} {k : List It} {ρ : E} {w : World} {all : Array Oper} {l : List Oper} {md : Option (List Oper)}
theorem Ops.mkM {o : Oper} {d t : Nat} (ho : o.op = .makeMap t none) (hd : o.dst = some d) (hg : o.guard = none)
    (hk : ∀ w' r, MapB w' r (fun _ => false) → Kp (fun _ => False) w w' → r = w.heap.size → Ops none P n ds all k Φ l ((d, .map (some r)) :: ρ) w') : Ops none P n ds all k Φ (o :: l) ρ w := by
  have hm := mk_alloc w (.map #[] 0)
  refine Ops.val hd hg (fun a hr => ?_) (hk _ _ ⟨#[], 0, [], hm.at_, rfl, fun _ => rfl⟩ hm.kp rfl)
  have hm' : (Instr.makeMap t none).run P w = .ok (.map (some w.heap.size)) (w.alloc (.map #[] 0)) := rfl
  simp [execOp, ho, hm']
theorem run_findKey_int {kt : Nat} {es : List MapEntry} {x : Int} {r : Option (Nat × Value)} (hu : P.underlying kt = some (.int .i64)) (h : Instr.findNow (.int .i64) (.int .i64 x) es 0 = some r) : (Instr.findKey kt (.int .i64 x) es).run P w = .ok r w := by
  simp [Instr.findKey, run_und hu, h]
theorem run_checkKey_int {kt : Nat} {x : Int} {b : Bool} (hu : P.underlying kt = some (.int .i64)) : (Instr.checkKey b 10000 kt (.int .i64 x)).run P w = .ok () w := by
  rw [show (10000 : Nat) = 9999 + 1 from rfl, Instr.checkKey]
  simp [run_und hu]
theorem run_getObj_m {r : Nat} {es : Array MapEntry} {c : Nat} (h : w.heap[r]? = some (.map es c)) : (getObj r).run P w = .ok (.map es c) w := by simp [getObj, Sem.run, h]
theorem run_setObj_m {r : Nat} {es : Array MapEntry} {c : Nat} (o : Obj) (h : w.heap[r]? = some (.map es c)) : (setObj r o).run P w = .ok () { w with heap := w.heap.setIfInBounds r o } := by simp [setObj, Sem.run, h]
theorem run_look {t kt et r : Nat} {x : Int} {f : Int → Bool} (ht : tyD P t = some (.map kt et)) (hk : tyD P kt = some (.int .i64)) (hz : tyZ P et = some (.bool false)) (hm : MapB w r f) : (Instr.lookup t (.map (some r)) (.int .i64 x) false).run P w = .ok (.bool (f x)) w := by
  obtain ⟨es, c, ks, hb, h1, h2⟩ := hm
  have hu := td_map (tyD_ok ht)
  have huk := td_int (tyD_ok hk)
  cases hf : ks.contains x with
  | true =>
    obtain ⟨j, _, h3, _⟩ := findNow_in (i := 0) h1 hf
    simp [Instr.lookup, run_und hu, run_getObj_m hb, run_checkKey_int huk, run_findKey_int huk h3, h2 x, by simpa using hf]
  | false =>
    have h3 := findNow_out (i := 0) h1 hf
    simp [Instr.lookup, run_und hu, run_getObj_m hb, run_checkKey_int huk, run_findKey_int huk h3, run_zeroV hz, h2 x, by simpa using hf]
/-- m[x] -/
theorem Ops.look {o : Oper} {d t kt et r : Nat} {x y : Operand} {i : Int} {f : Int → Bool} (ho : o.op = .lookup t x y false) (hd : o.dst = some d) (hg : o.guard = none)
    (ht : tyD P t = some (.map kt et)) (hkt : tyD P kt = some (.int .i64)) (hz : tyZ P et = some (.bool false)) (hx : ev ρ x = some (.map (some r))) (hy : ev ρ y = some (.int .i64 i)) (hm : MapB w r f)
    (hk : Ops md P n ds all k Φ l ((d, .bool (f i)) :: ρ) w) : Ops md P n ds all k Φ (o :: l) ρ w := by
  refine Ops.valS hd hg (fun a hr => ?_) hk
  simp [execOp, ho, hr.ev hx, hr.ev hy, run_look ht hkt hz hm]
theorem kp_setObj (r : Nat) (o : Obj) : Kp (fun i => i = r) w { w with heap := w.heap.setIfInBounds r o } :=
  ⟨rfl, rfl, rfl, by simp, fun i hi hn => by simp [Array.getElem?_setIfInBounds_ne (Ne.symm hn)]⟩
theorem run_stay {x : Int} : (Instr.keyThatStays (.int .i64 x) (.int .i64 x)).run P w = .ok (.int .i64 x) w := by
  unfold Instr.keyThatStays
  rw [if_pos (by rw [show (10000 : Nat) = 9999 + 1 from rfl, Instr.sameBits]; simp)]
  rfl
theorem run_put {t kt et r : Nat} {x : Int} {f : Int → Bool} (ht : tyD P t = some (.map kt et)) (hk : tyD P kt = some (.int .i64)) (hm : MapB w r f) :
    ∃ w', (Instr.mapUpdate t (.map (some r)) (.int .i64 x) (.bool true)).run P w = .ok () w' ∧ MapB w' r (fun k => f k || k == x) ∧ Kp (fun i => i = r) w w' ∧ w'.heap.size = w.heap.size := by
  obtain ⟨es, c, ks, hb, h1, h2⟩ := hm
  have hu := td_map (tyD_ok ht)
  have huk := td_int (tyD_ok hk)
  have hlt := (Array.getElem?_eq_some_iff.1 hb).1
  cases hf : ks.contains x with
  | true =>
    obtain ⟨j, _, h3, h4⟩ := findNow_in (i := 0) h1 hf
    rw [Nat.sub_zero, Array.getElem?_toList] at h4
    refine ⟨_, ?_, ?_, kp_setObj r (.map (es.modify j fun e => { e with key := .int .i64 x, val := .bool true }) c), by simp⟩
    · simp [Instr.mapUpdate, run_und hu, run_getObj_m hb, run_checkKey_int huk, run_findKey_int huk h3]
      rw [h4]
      simp [run_stay, run_setObj_m _ hb]
    · refine ⟨es.modify j fun e => { e with key := .int .i64 x, val := .bool true }, c, ks, by simp [hlt], ?_, fun k => ?_⟩
      · rw [← h1]
        apply List.ext_getElem?
        intro i
        simp only [List.getElem?_map, Array.getElem?_toList, Array.getElem?_modify]
        split
        · rename_i e
          subst e
          obtain ⟨hj1, hj2⟩ : ∃ e, es[j]? = some e ∧ e.key = .int .i64 x := by
            cases he : es[j]? with
            | none => rw [he] at h4; simp at h4
            | some e => rw [he] at h4; simp at h4; exact ⟨e, rfl, h4⟩
          have hv : (es.toList.map fun e => (e.key, e.val))[j]? = (ks.map kvI)[j]? := by rw [h1]
          simp only [List.getElem?_map, Array.getElem?_toList, hj2.1, Option.map_some] at hv
          rw [hj2.1]
          simp only [Option.map_some, Option.some.injEq]
          cases hq : ks[j]? with
          | none => rw [hq] at hv; simp at hv
          | some q => rw [hq] at hv; simp [kvI] at hv; rw [hj2.2, hv.2]
        · rfl
      · show (f k || k == x) = _
        rw [h2 k]
        by_cases e : k = x
        · subst e; simp [hf]; simpa using hf
        · simp [e]
  | false =>
    have h3 := findNow_out (i := 0) h1 hf
    refine ⟨_, ?_, ?_, kp_setObj r (.map (es.push { key := .int .i64 x, val := .bool true, born := c }) (c + 1)), by simp⟩
    · simp [Instr.mapUpdate, run_und hu, run_getObj_m hb, run_checkKey_int huk, run_findKey_int huk h3, run_setObj_m _ hb]
    · refine ⟨es.push { key := .int .i64 x, val := .bool true, born := c }, c + 1, ks ++ [x], by simp [hlt], by simp [h1, kvI], fun k => ?_⟩
      show (f k || k == x) = _
      rw [h2 k]
      simp [Bool.beq_eq_decide_eq]
/-- m[x] = true -/
theorem Ops.put {o : Oper} {t kt et r : Nat} {x y z : Operand} {i : Int} {f : Int → Bool} (ho : o.op = .mapUpdate t x y z) (hd : o.dst = none) (hg : o.guard = none)
    (ht : tyD P t = some (.map kt et)) (hkt : tyD P kt = some (.int .i64)) (hx : ev ρ x = some (.map (some r))) (hy : ev ρ y = some (.int .i64 i)) (hz : ev ρ z = some (.bool true)) (hm : MapB w r f)
    (hk : ∀ w', MapB w' r (fun k => f k || k == i) → Kp (fun i => i = r) w w' → w'.heap.size = w.heap.size → Ops none P n ds all k Φ l ρ w') : Ops none P n ds all k Φ (o :: l) ρ w := by
  obtain ⟨w', hrun, h1, h2, h3⟩ := run_put (x := i) ht hkt hm
  refine Ops.unit hg hd (fun a hr => ?_) (hk w' h1 h2 h3)
  simp [execOp, ho, hr.ev hx, hr.ev hy, hr.ev hz, hrun]
/-- A field of one cell of a struct that is no variable. -/
def plainField (P : Program) (t i : Nat) : Option Nat := match P.underlying t with
  | some (.struct gs) => match gs[i]? with
    | some f => match P.underlying f.type with
      | some (.struct _) => none
      | some (.array _ _) => none
      | some _ => some f.offset
      | none => none
    | none => none
  | _ => none
omit hT in
theorem run_field {t i off : Nat} {cs : Array Value} {v : Value} (h : plainField P t i = some off) (hv : cs[off]? = some v) : (Instr.field t (.agg cs) i).run P w = .ok v w := by
  unfold plainField at h
  cases hu : P.underlying t with
  | none => rw [hu] at h; simp at h
  | some d =>
    rw [hu] at h
    cases d with
    | struct gs =>
      simp only at h
      cases hf : gs[i]? with
      | none => rw [hf] at h; simp at h
      | some f =>
        rw [hf] at h
        simp only at h
        have hi : (isAgg f.type).run P w = .ok false w ∧ f.offset = off := by
          cases hu2 : P.underlying f.type with
          | none => rw [hu2] at h; simp at h
          | some d2 => rw [hu2] at h; cases d2 <;> simp at h <;> exact ⟨by simp [isAgg, underlying, hu2], h⟩
        simp [Instr.field, run_und hu, hf, asAgg, part, hi.1, hi.2, hv]
    | _ => simp at h
theorem Ops.fieldV {o : Oper} {d t i off : Nat} {x : Operand} {cs : Array Value} {v : Value} (ho : o.op = .field t x i) (hd : o.dst = some d) (hg : o.guard = none)
    (ht : plainField P t i = some off) (hx : ev ρ x = some (.agg cs)) (hv : nth cs.toList off = some v) (hk : Ops md P n ds all k Φ l ((d, v) :: ρ) w) : Ops md P n ds all k Φ (o :: l) ρ w := by
  refine Ops.valS hd hg (fun a hr => ?_) hk
  rw [nth_eq, Array.getElem?_toList] at hv
  simp [execOp, ho, hr.ev hx, run_field ht hv]
omit hT in
theorem W.label {i : Nat} (h : W P n ds k Φ ρ w) : W P n ds (.code (.label i) :: k) Φ ρ w := fun _ _ hr hd => wp_label ⟨ρ, hr, hd, h⟩
omit hT in
theorem Qof.goto_no (hΦ : ∀ l ρ w, ¬ Φ (.goto l) ρ w) : ∀ (k : List It) i ρ w, ¬ Qof P n ds Φ k (.goto i) ρ w := by
  intro k
  induction k with
  | nil => exact hΦ
  | cons x r ih => cases x <;> exact ih
omit hT in
/-- A scope in which nothing jumps. -/
theorem W.scope {c : Code} (hΦ : ∀ l ρ w, ¬ Φ (.goto l) ρ w) (h : W P n ds (.code c :: k) Φ ρ w) : W P n ds (.code (.scope c) :: k) Φ ρ w := by
  intro hi a hr hd
  refine wp_scope_straight (wp_mono (h (by simpa [inB] using hi) a hr hd) fun e a w hl => ?_)
  obtain ⟨ρ', hr', hd', hq⟩ := hl
  cases e with
  | goto i => exact absurd hq (Qof.goto_no hΦ k i ρ' w)
  | _ => exact ⟨ρ', hr', hd', hq⟩
end
end Go.Proofs.Ytdiljpnfochndaa.VW
