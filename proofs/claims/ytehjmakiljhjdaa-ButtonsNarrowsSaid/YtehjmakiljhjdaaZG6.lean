/- A part of the walk: what this seat's statements share. -/
import Derived.Test.YtehjmakiljhjdaaZG5
import Derived.Shelf.Sort.Plain
import Derived.Test.YtehjmakiljhjdaaZG1
import Derived.Test.YtehjmakiljhjdaaZG3
set_option linter.unusedVariables false
set_option linter.unusedSimpArgs false
set_option linter.unusedSectionVars false
/- A table of the call's own, row by row. -/
namespace Go.Proofs.Ytehjmakiljhjdaa.VW
open Go Go.RowKit
theorem OrdF.sub {P : Program} {n : Nat} {ds : List Deferred} {Φ : Post} {k : List It} {ρ ρ' : E} {w : World} {all : Array Oper} {F : World → Prop} {π : List Nat} {L : List Bool} (hs : Sub ρ' ρ) (h : OrdF P n ds all k Φ F π L ρ' w) : OrdF P n ds all k Φ F π L ρ w :=
  fun h1 h2 h3 h4 h5 a hr hd => h h1 h2 h3 h4 h5 a (hr.sub hs) hd
theorem OrdF.cut {P : Program} {n : Nat} {ds : List Deferred} {Φ : Post} {k : List It} {ρ : E} {w : World} {all : Array Oper} {F : World → Prop} {π π' : List Nat} {L L' : List Bool} (C : E → World → Prop) (h1 : (∀ ρ1 w1, C ρ1 w1 → OrdF P n ds all k Φ F π' L' ρ1 w1) → OrdF P n ds all k Φ F π L ρ w) (h2 : ∀ ρ1 w1, C ρ1 w1 → OrdF P n ds all k Φ F π' L' ρ1 w1) : OrdF P n ds all k Φ F π L ρ w := h1 h2
theorem OrdF.re {P : Program} {n : Nat} {ds : List Deferred} {Φ : Post} {k : List It} {ρ : E} {w : World} {all : Array Oper} {F : World → Prop} {π : List Nat} (π' : List Nat) {L : List Bool} (he : π'.length = π.length) (h : OrdF P n ds all k Φ F π' L ρ w) : OrdF P n ds all k Φ F π L ρ w := by unfold OrdF at *; rw [← he]; exact h
structure RW (w0 w : World) (ov : Value) (cvs : List Value) (n : Nat) (T : Nat → List Int) : Prop where
  o : OI 23 (fun v : Value => v) w0 w ov cvs
  len : cvs.length = n
  rows : ∀ j, j < n → OI 3 (Value.int .i64) w0 w (cvs.getD j undef) (T j)
  apart : ∀ j, j < n → ∀ b, (cvs.getD j undef).ownBlock = some b → ov.ownBlock ≠ some b ∧ ∀ k, k < n → k ≠ j → (cvs.getD k undef).ownBlock ≠ some b
theorem RW.kp {w0 w w' : World} {ov : Value} {cvs : List Value} {n : Nat} {T : Nat → List Int} {S : Nat → Prop} (h : RW w0 w ov cvs n T) (k : Kp S w w') (hs : ∀ i, S i → w0.heap.size ≤ i ∧ ov.ownBlock ≠ some i ∧ ∀ j, j < n → (cvs.getD j undef).ownBlock ≠ some i) : RW w0 w' ov cvs n T :=
  ⟨h.o.kp k (fun i hi => ⟨(hs i hi).1, (hs i hi).2.1⟩), h.len, fun j hj => (h.rows j hj).kp k (fun i hi => ⟨(hs i hi).1, (hs i hi).2.2 j hj⟩), h.apart⟩
theorem RW.below {w0 w w' : World} {ov : Value} {cvs : List Value} {n : Nat} {T : Nat → List Int} (h : RW w0 w ov cvs n T) (k : Below w.heap.size w w') : RW w0 w' ov cvs n T := h.kp (Kp.of_below (S := fun _ => False) k) (fun _ e => e.elim)
theorem RW.up {w0 w1 w : World} {ov : Value} {cvs : List Value} {n : Nat} {T : Nat → List Int} (h : RW w1 w ov cvs n T) (k : Below w0.heap.size w0 w1) : RW w0 w ov cvs n T := ⟨h.o.up k, h.len, fun j hj => (h.rows j hj).up k, h.apart⟩
theorem setV_eq {α : Type} {os : List α} {i : Nat} {x d : α} (h : i < os.length) : (os.set i x).getD i d = x := by simp [List.getD_eq_getElem?_getD, h]
theorem setV_ne {α : Type} {os : List α} {i j : Nat} {x d : α} (h : i ≠ j) : (os.set i x).getD j d = os.getD j d := by simp [List.getD_eq_getElem?_getD, List.getElem?_set_ne h]
theorem RW.step {w0 w w1 w2 : World} {ov rv : Value} {cvs : List Value} {n i : Nat} {T : Nat → List Int} {u : Int} (h : RW w0 w ov cvs n T) (hi : i < n) (hO1 : OI 3 (Value.int .i64) w0 w1 rv (T i ++ [u])) (k1 : Kp (fun b => (cvs.getD i undef).ownBlock = some b) w w1)
    (hn : ∀ b, rv.ownBlock = some b → (cvs.getD i undef).ownBlock = some b ∨ w.heap.size ≤ b) (hO2 : OI 23 (fun v : Value => v) w0 w2 ov (cvs.set i rv)) (k2 : Kp (fun b => ov.ownBlock = some b) w1 w2) : RW w0 w2 ov (cvs.set i rv) n (fun q => if q = i then T i ++ [u] else T q) := by
  have hl := h.len
  have hlt : ∀ v : Value, ∀ b, (∀ xs : List Int, OI 3 (Value.int .i64) w0 w v xs → v.ownBlock = some b → b < w.heap.size) := fun v b xs hO hb => (hO.own.lt b hb).2
  have hov : ∀ b, rv.ownBlock = some b → ov.ownBlock ≠ some b := fun b hb e => by
    rcases hn b hb with h1 | h1
    · exact (h.apart i hi b h1).1 e
    · have := (h.o.own.lt b e).2; omega
  refine ⟨hO2, by simp [hl], fun j hj => ?_, fun j hj b hb => ?_⟩
  · by_cases e : j = i
    · subst e
      rw [setV_eq (by omega), if_pos rfl]
      exact hO1.kp k2 (fun b hb => ⟨h.o.ge b hb, fun e => hov b e hb⟩)
    · rw [setV_ne (fun h => e h.symm), if_neg e]
      exact ((h.rows j hj).kp k1 (fun b hb => ⟨(h.rows i hi).ge b hb, fun e2 => (h.apart i hi b hb).2 j hj e e2⟩)).kp k2 (fun b hb => ⟨h.o.ge b hb, fun e2 => (h.apart j hj b e2).1 hb⟩)
  · by_cases e : j = i
    · subst e
      rw [setV_eq (by omega)] at hb
      refine ⟨hov b hb, fun k hk hkj e2 => ?_⟩
      rw [setV_ne (fun h => hkj h.symm)] at e2
      rcases hn b hb with h1 | h1
      · exact (h.apart j hj b h1).2 k hk hkj e2
      · have := hlt _ b _ (h.rows k hk) e2; omega
    · rw [setV_ne (fun h => e h.symm)] at hb
      refine ⟨(h.apart j hj b hb).1, fun k hk hkj e2 => ?_⟩
      by_cases e3 : k = i
      · subst e3
        rw [setV_eq (by omega)] at e2
        rcases hn b e2 with h1 | h1
        · exact (h.apart j hj b hb).2 k hk hkj h1
        · have := hlt _ b _ (h.rows j hj) hb; omega
      · rw [setV_ne (fun h => e3 h.symm)] at e2
        exact (h.apart j hj b hb).2 k hk hkj e2
theorem RW.rowsM {w0 w : World} {ov : Value} {cvs : List Value} {n : Nat} {T : Nat → List Int} (h : RW w0 w ov cvs n T) : RowsM w ov ((List.range n).map T) := by
  obtain ⟨hl, A, k, rfl, hc⟩ := h.o.sl (z := undef)
  have hlen := h.len
  refine ⟨by simp; omega, A, k, cvs, by simp [hlen], fun hp => ?_, fun j hj => ?_⟩
  · obtain ⟨a, rfl, hcc⟩ := hc (by simp at hp; omega)
    exact ⟨a, rfl, fun j hj => hcc j (by simp at hj; omega)⟩
  · simp at hj
    have : ((List.range n).map T).getD j [] = T j := by simp [List.getD_eq_getElem?_getD, hj]
    rw [this]
    exact (h.rows j hj).sl
end Go.Proofs.Ytehjmakiljhjdaa.VW
/- Sets as maps whose length is asked for; append behind a slice that is full; slices of arrays. -/
namespace Go.Proofs.Ytehjmakiljhjdaa.VW
open Go Go.RowKit
def addL (ks : List Int) (x : Int) : List Int := if ks.contains x then ks else ks ++ [x]
/-- Block b is a map in which just the numbers of ks stand, with true. -/
def MapL (w : World) (b : Nat) (ks : List Int) : Prop := ∃ (es : Array MapEntry) (c : Nat), w.heap[b]? = some (.map es c) ∧ es.toList.map (fun e => (e.key, e.val)) = ks.map kvI
theorem MapL.kp {w w' : World} {b : Nat} {ks : List Int} {S : Nat → Prop} (h : MapL w b ks) (k : Kp S w w') (hs : ¬ S b) : MapL w' b ks := by
  obtain ⟨es, c, hb, h1⟩ := h
  exact ⟨es, c, by rw [k.blk b (Array.getElem?_eq_some_iff.1 hb).1 hs]; exact hb, h1⟩
theorem MapL.below {w w' : World} {b : Nat} {ks : List Int} (h : MapL w b ks) (k : Below w.heap.size w w') : MapL w' b ks := h.kp (Kp.of_below (S := fun _ => False) k) (fun e => e)
theorem MapL.lt {w : World} {b : Nat} {ks : List Int} (h : MapL w b ks) : b < w.heap.size := by
  obtain ⟨es, c, hb, h1⟩ := h
  exact (Array.getElem?_eq_some_iff.1 hb).1
section
variable {P : Program} [hT : Tab P] {n : Nat} {ds : List Deferred} {Φ : Post} {k : List It} {ρ : E} {w : World} {all : Array Oper} {l : List Oper} {md : Option (List Oper)}
theorem Ops.mkL {o : Oper} {d t : Nat} (ho : o.op = .makeMap t none) (hd : o.dst = some d) (hg : o.guard = none)
    (hk : ∀ w' r, MapL w' r [] → Kp (fun _ => False) w w' → r = w.heap.size → Ops none P n ds all k Φ l ((d, .map (some r)) :: ρ) w') : Ops none P n ds all k Φ (o :: l) ρ w := by
  have hm := mk_alloc w (.map #[] 0)
  refine Ops.val hd hg (fun a hr => ?_) (hk _ _ ⟨#[], 0, hm.at_, rfl⟩ hm.kp rfl)
  have hm' : (Instr.makeMap t none).run P w = .ok (.map (some w.heap.size)) (w.alloc (.map #[] 0)) := rfl
  simp [execOp, ho, hm']
theorem run_putL {t kt et r : Nat} {x : Int} {ks : List Int} (ht : tyD P t = some (.map kt et)) (hk : tyD P kt = some (.int .i64)) (hm : MapL w r ks) :
    ∃ w', (Instr.mapUpdate t (.map (some r)) (.int .i64 x) (.bool true)).run P w = .ok () w' ∧ MapL w' r (addL ks x) ∧ Kp (fun i => i = r) w w' ∧ w'.heap.size = w.heap.size := by
  obtain ⟨es, c, hb, h1⟩ := hm
  have hu := td_map (tyD_ok ht)
  have huk := td_int (tyD_ok hk)
  have hlt := (Array.getElem?_eq_some_iff.1 hb).1
  cases hf : ks.contains x with
  | true =>
    obtain ⟨j, _, h3, h4⟩ := findNow_in (i := 0) h1 hf
    rw [Nat.sub_zero, Array.getElem?_toList] at h4
    refine ⟨_, ?_, ?_, kp_setObj r (.map (es.modify j fun e => { e with key := .int .i64 x, val := .bool true }) c), by simp⟩
    · simp [Instr.mapUpdate, run_und hu, run_getObj_m hb, run_checkKey_int huk, run_findKey_int huk h3]
      rw [h4]
      simp [run_stay, run_setObj_m _ hb]
    · unfold addL
      rw [if_pos hf]
      refine ⟨es.modify j fun e => { e with key := .int .i64 x, val := .bool true }, c, by simp [hlt], ?_⟩
      rw [← h1]
      apply List.ext_getElem?
      intro i
      simp only [List.getElem?_map, Array.getElem?_toList, Array.getElem?_modify]
      split
      · rename_i e
        subst e
        obtain ⟨hj1, hj2⟩ : ∃ e, es[j]? = some e ∧ e.key = .int .i64 x := by
          cases he : es[j]? with
          | none => rw [he] at h4; simp at h4
          | some e => rw [he] at h4; simp at h4; exact ⟨e, rfl, h4⟩
        have hv : (es.toList.map fun e => (e.key, e.val))[j]? = (ks.map kvI)[j]? := by rw [h1]
        simp only [List.getElem?_map, Array.getElem?_toList, hj2.1, Option.map_some] at hv
        rw [hj2.1]
        simp only [Option.map_some, Option.some.injEq]
        cases hq : ks[j]? with
        | none => rw [hq] at hv; simp at hv
        | some q => rw [hq] at hv; simp [kvI] at hv; rw [hj2.2, hv.2]
      · rfl
  | false =>
    have h3 := findNow_out (i := 0) h1 hf
    refine ⟨_, ?_, ?_, kp_setObj r (.map (es.push { key := .int .i64 x, val := .bool true, born := c }) (c + 1)), by simp⟩
    · simp [Instr.mapUpdate, run_und hu, run_getObj_m hb, run_checkKey_int huk, run_findKey_int huk h3, run_setObj_m _ hb]
    · unfold addL
      rw [hf]
      exact ⟨es.push { key := .int .i64 x, val := .bool true, born := c }, c + 1, by simp [hlt], by simp [h1, kvI]⟩
theorem Ops.putL {o : Oper} {t kt et r : Nat} {x y z : Operand} {i : Int} {ks : List Int} (ho : o.op = .mapUpdate t x y z) (hd : o.dst = none) (hg : o.guard = none)
    (ht : tyD P t = some (.map kt et)) (hkt : tyD P kt = some (.int .i64)) (hx : ev ρ x = some (.map (some r))) (hy : ev ρ y = some (.int .i64 i)) (hz : ev ρ z = some (.bool true)) (hm : MapL w r ks)
    (hk : ∀ w', MapL w' r (addL ks i) → Kp (fun i => i = r) w w' → w'.heap.size = w.heap.size → Ops none P n ds all k Φ l ρ w') : Ops none P n ds all k Φ (o :: l) ρ w := by
  obtain ⟨w', hrun, h1, h2, h3⟩ := run_putL (x := i) ht hkt hm
  refine Ops.unit hg hd (fun a hr => ?_) (hk w' h1 h2 h3)
  simp [execOp, ho, hr.ev hx, hr.ev hy, hr.ev hz, hrun]
/-- len(m) -/
theorem Ops.lenM {o : Oper} {d t kt et r : Nat} {x : Operand} {ks : List Int} (ho : o.op = .call { callee := .builtin .len, args := #[x], argTypes := #[t] }) (hd : o.dst = some d) (hg : o.guard = none)
    (ht : tyD P t = some (.map kt et)) (hx : ev ρ x = some (.map (some r))) (hm : MapL w r ks) (hk : Ops md P n ds all k Φ l ((d, .int .i64 (ks.length : Int)) :: ρ) w) : Ops md P n ds all k Φ (o :: l) ρ w := by
  refine Ops.valS hd hg (fun a hr => ?_) hk
  obtain ⟨es, c, hb, h1⟩ := hm
  have hs : es.size = ks.length := by
    have := congrArg List.length h1
    simpa using this
  simp [execOp, ho, resolve, hr.ev hx, invoke, builtin, Builtin.len_, run_und (td_map (tyD_ok ht)), run_getObj_m hb, goInt, hs]
/-- x[:m:m] of a slice of length m. -/
theorem Ops.sl3 {o : Oper} {d t e sz m c : Nat} {x y z : Operand} {A : Option Addr} (ho : o.op = .slice t x none (some y) (some z)) (hd : o.dst = some d) (hg : o.guard = none)
    (ht : tyD P t = some (.slice e)) (hs : tyS P e = some sz) (hx : ev ρ x = some (.slice A m c)) (hy : ev ρ y = some (.int .i64 (m : Int))) (hz : ev ρ z = some (.int .i64 (m : Int))) (h1 : m ≤ c) (hk : Ops md P n ds all k Φ l ((d, .slice A m m) :: ρ) w) : Ops md P n ds all k Φ (o :: l) ρ w := by
  refine Ops.valS hd hg (fun a hr => ?_) hk
  have e0 : A.map (fun p : Addr => p.add 0) = A := by cases A <;> simp [Addr.add]
  simp [execOp, ho, hr.ev hx, hr.ev hy, hr.ev hz, Instr.sliceAt, Instr.slice, Instr.sliceBounds, Instr.sliceBound, asIntOf, run_und (td_slice (tyD_ok ht)), run_sizeOf hs, h1, e0]
/-- append(s, x) where s has no room. -/
theorem Ops.pushG {α : Type} {enc : α → Value} {z0 : α} {o1 o2 : Oper} {d1 d2 t e by' m : Nat} {x y : Operand} {u : α} {A : Option Addr} {z : Value} {xs : List α}
    (h1 : o1.op = .buildSlice t 1 #[(0, x)]) (hd1 : o1.dst = some d1) (hg1 : o1.guard = none) (h2 : o2.op = .call { callee := .builtin .append, args := #[y, .tmp d1], argTypes := #[t, t] }) (hd2 : o2.dst = some d2) (hg2 : o2.guard = none)
    (ht : tyD P t = some (.slice e)) (hs : tyS P e = some 1) (hb : tyB P e = some (by' + 1)) (hz : tyZ P e = some z) (hzs : z.cells.size = 1) (hx : ev ρ x = some (enc u)) (hy : ∀ p, ev ((d1, p) :: ρ) y = some (.slice A m m)) (hu : (enc u).oneCell' = true) (hnil : A = none → m = 0)
    (hS : Sl enc z0 w (.slice A m m) xs) (hbytes : (xs.length + 1) * (by' + 1) ≤ 140737488355328)
    (hk : ∀ lv' p w', OI e enc w w' lv' (xs ++ [u]) → Ops none P n ds all k Φ l ((d2, lv') :: (d1, p) :: ρ) w') : Ops none P n ds all k Φ (o1 :: o2 :: l) ρ w := by
  refine Ops.bs1 h1 hd1 hg1 ht hs hz hzs hx hu (fun w1 r hM => ?_)
  obtain ⟨f, hi, h2', h3, h4⟩ := tyE_ok hs hb hz
  have hS1 := hS.kp hM.kp (fun _ _ e => e)
  have hb1 : Below w.heap.size w w1 := Below.put (Below.refl _ _) hM.kp (fun _ e => e.elim)
  obtain ⟨hm', A', c', e1, hc⟩ := hS1
  cases e1
  have hone := own_one hM
  have hnews : ∀ j v, [enc u][j]? = some v → w1.cell? ((⟨r, 0, none⟩ : Addr).add j) = some v := hone.cells (g := r) rfl
  have hl5 : xs.length + 1 ≤ (xs.length + 1) * (by' + 1) := Nat.le_mul_of_pos_right _ (by omega)
  have key : ∀ (cap : Nat) (cs : Array Value), cap = grownCap w1 (xs.length + 1) xs.length e → cs.size = cap → cs.toList.take (xs.length + 1) = (xs ++ [u]).map enc → OI e enc w (w1.drew.alloc (.cells cs e)) (.slice (some ⟨w1.heap.size, 0, none⟩) (xs.length + 1) cap) (xs ++ [u]) := by
    intro cap cs hcap hcs ht'
    have hal := mk_alloc w1.drew (.cells cs e)
    have hd : Below w1.heap.size w1 w1.drew := Kp.below (kp_drew w1) (Nat.le_refl _) (fun _ _ e => e)
    refine ⟨Below.via hb1 (Below.put hd hal.kp (fun _ e => e.elim)), ⟨by simp, .inr ⟨w1.heap.size, cap, cs, by simp, Nat.zero_le _, hal.at_, ?_, ?_, by omega, by simpa using ht'⟩⟩, fun j hj => by simp [Value.ownBlock] at hj; have := hb1.size; omega⟩
    · rw [hcap]; have := grownCap_ge w1 (xs.length + 1) xs.length e; simpa using this
    · rw [hcap]; exact grownCap_le_maxLen w1 _ _ e (by simp only [maxLen]; omega)
  have hrun : ∃ v' w', (Builtin.append_ #[t, t] o2.type #[.slice A xs.length xs.length, .slice (some ⟨r, 0, none⟩) 1 1]).run P w1 = .ok v' w' ∧ OI e enc w w' v' (xs ++ [u]) := by
    cases A with
    | none =>
      have hx0 : xs = [] := List.eq_nil_of_length_eq_zero (hnil rfl)
      subst hx0
      have hr := run_append_nil (P := P) w1 t o2.type e f z (td_slice (tyD_ok ht)) hi h4 ⟨r, 0, none⟩ 1 1 [enc u] (by rw [h2']; rfl) hnews (by omega) (by omega) (by rw [h3]; simp only [List.length_nil, Nat.zero_add] at hbytes; omega)
      refine ⟨_, _, hr, ?_⟩
      have := key _ ([enc u].toArray ++ Builtin.zeroCells z.cells (grownCap w1 1 0 e - 1)) rfl (by have := grownCap_ge w1 1 0 e; simp [size_zeroCells, hzs]; omega) (by simp)
      simpa using this
    | some a =>
      have hold : ∀ j v, (xs.map enc)[j]? = some v → w1.cell? (a.add j) = some v := fun j v hj => by
        rw [List.getElem?_map, Option.map_eq_some_iff] at hj
        obtain ⟨q, hq, rfl⟩ := hj
        have hjl := (List.getElem?_eq_some_iff.1 hq).1
        obtain ⟨a', ea, hcc⟩ := hc (by omega)
        cases ea
        rw [hcc j hjl]
        simp [List.getD_eq_getElem?_getD, hq]
      have hr := run_append_grow (P := P) w1 t o2.type e f z (td_slice (tyD_ok ht)) hi h4 a xs.length xs.length (xs.map enc) (by rw [h2']; simp) hold ⟨r, 0, none⟩ 1 1 [enc u] (by rw [h2']; rfl) hnews (by omega) (by omega) (by rw [h3]; exact growslice_fits (by omega) hbytes)
      refine ⟨_, _, hr, ?_⟩
      refine key _ ((xs.map enc).toArray ++ [enc u].toArray ++ Builtin.zeroCells z.cells (grownCap w1 (xs.length + 1) xs.length e - (xs.length + 1))) rfl ?_ ?_
      · have := grownCap_ge w1 (xs.length + 1) xs.length e; simp [size_zeroCells, hzs]; omega
      · simp only [Array.toList_append, List.map_append, List.map_cons, List.map_nil]
        rw [List.take_append_of_le_length (by simp)]
        rw [List.take_of_length_le (by simp)]
  obtain ⟨v', w', hr', hO⟩ := hrun
  refine Ops.val hd2 hg2 (fun a hr => ?_) (hk v' _ w' hO)
  simp [execOp, h2, resolve, invoke, builtin, hr.ev (hy _), hr.ev (ev_top _ _ _), hr']
/-- p[1:h] of an array. -/
theorem EV.slA {o : Oper} {t e len h : Nat} {x y z : Operand} {a : Addr} (ho : o.op = .slice t x (some z) (some y) none) (ht : tyD P t = some (.array len e)) (hs : tyS P e = some 1) (hx : ev ρ x = some (.pointer (some a))) (hz : ev ρ z = some (.int .i64 1)) (hy : ev ρ y = some (.int .i64 (h : Int))) (h0 : 1 ≤ h) (h1 : h ≤ len) (h2 : 1 < len) :
    EV P n ρ w o (.slice (some (a.add 1)) (h - 1) (len - 1)) := by
  intro c hr
  have hne : ¬ len = 1 := by omega
  have hne2 : ¬ ((h : Int) < 1) := by omega
  simp [hne2, execOp, ho, hr.ev hx, hr.ev hy, hr.ev hz, Instr.sliceAt, Instr.sureAddr, Instr.sliceBounds, Instr.sliceBound, asIntOf, run_und (td_array (tyD_ok ht)), run_sizeOf hs, h0, h1, hne]
end
end Go.Proofs.Ytehjmakiljhjdaa.VW
namespace Go.Proofs.Ytehjmakiljhjdaa
open Go Go.RowKit Go.Proofs.Ytehjmakiljhjdaa.VW
attribute [local irreducible] W Ops OrdA VW.Ord OrdX
/-- The holes that a row has for w, as far as column m. -/
def rowH (r : List Int) (w : Int) (ks : List Int) : Nat → List Int
  | 0 => ks
  | m + 1 => if r.getD m 0 ≤ w then addL (rowH r w ks m) m else rowH r w ks m
def holesH (c : List (List Int)) (w : Int) (l : List Int) : Nat → List Int
  | 0 => []
  | k + 1 => rowH (c.getD (l.getD k 0).toNat []) w (holesH c w l k) c.length
/-- Buttons of c, in order. -/
def inOrd (n : Nat) (l : List Int) : Prop := ∀ k, k < l.length → (0 ≤ l.getD k 0 ∧ l.getD k 0 < n) ∧ (0 < k → l.getD (k - 1) 0 < l.getD k 0)
instance (n : Nat) (l : List Int) : Decidable (inOrd n l) := by unfold inOrd; infer_instance
/-- A block, as the program finds it. -/
def BlkS (c : List (List Int)) (w : Int) (l : List Int) : Prop := inOrd c.length l ∧ (holesH c w l l.length).length < l.length
instance (c : List (List Int)) (w : Int) (l : List Int) : Decidable (BlkS c w l) := by unfold BlkS; infer_instance
set_option maxHeartbeats 2000000 in
theorem isBlock_c {w : World} {cv lv : Value} {c : List (List Int)} {x : Int} {l : List Int} (hM : RowsM w cv c) (hC : Cst c) (hl : SlI w lv l) :
    Calls Try.prog 57 #[cv, .int .i64 x, lv] w (Ret fun r w' => r = .bool (decide (BlkS c x l)) ∧ Below w.heap.size w w') := by
  have hn7 := hC.n7
  have hll := Sl.len hl
  obtain ⟨Ac, cc, rfl⟩ := hM.sl
  obtain ⟨A, k, rfl⟩ := Sl.shape hl
  have hdec : (BlkS c x l → False) → Value.bool false = Value.bool (decide (BlkS c x l)) := fun h2 => by rw [decide_eq_false h2]
  refine calls_W (vs := [_, _, _]) Try.func57 rfl (by kernel_rfl) rfl ?_
  (repeat (first | with_reducible refine W.seq ?_ | with_reducible refine Ops.nil ?_ | with_reducible refine W.region ?_ | refine z_p (kk := ?_) | refine z_a (kk := ?_) | refine z_y (kk := ?_) | refine z_n (kk := ?_) | refine z_u (kk := ?_) | with_reducible refine W.skip ?_ | with_reducible refine W.endb ?_ | with_reducible refine W.block ?_ | refine W.exit rfl ?_ | refine z_l (kk := ?_) | refine z_f (kk := ?_) | refine z_M (kk := ?_) | refine z_m (kk := ?_) | refine z_e (kk := ?_) | refine z_E (kk := ?_) | refine z_d (kk := ?_) | refine z_I (kk := fun _ => ?_) | refine z_J (kk := fun _ => ?_) | refine z_K (kk := fun _ => ?_) | refine z_L (kk := fun _ => ?_) | refine z_T (kk := ?_) | refine z_F (kk := ?_) | refine z_r (kk := fun _ _ _ _ => ?_) | refine z_D (kk := ?_) | refine z_B (kk := ?_) | refine z_S (kk := ?_) | refine z_Q (kk := ?_) | refine z_1 (kk := ?_) | refine z_O (kk := ?_) | refine z_2 (kk := ?_) | refine z_g (kk := ?_) | refine z_h (kk := ?_)))
  refine Ops.mkL rfl rfl rfl (fun w1 b hm1 hk1 hb1 => ?_)
  have hbel1 : Below w.heap.size w w1 := Below.put (Below.refl _ _) hk1 (fun _ e => e.elim)
  (repeat (first | with_reducible refine W.seq ?_ | with_reducible refine Ops.nil ?_ | with_reducible refine W.region ?_ | refine z_p (kk := ?_) | refine z_a (kk := ?_) | refine z_y (kk := ?_) | refine z_n (kk := ?_) | refine z_u (kk := ?_) | with_reducible refine W.skip ?_ | with_reducible refine W.endb ?_ | with_reducible refine W.block ?_ | refine W.exit rfl ?_ | refine z_l (kk := ?_) | refine z_f (kk := ?_) | refine z_M (kk := ?_) | refine z_m (kk := ?_) | refine z_e (kk := ?_) | refine z_E (kk := ?_) | refine z_d (kk := ?_) | refine z_I (kk := fun _ => ?_) | refine z_J (kk := fun _ => ?_) | refine z_K (kk := fun _ => ?_) | refine z_L (kk := fun _ => ?_) | refine z_T (kk := ?_) | refine z_F (kk := ?_) | refine z_r (kk := fun _ _ _ _ => ?_) | refine z_D (kk := ?_) | refine z_B (kk := ?_) | refine z_S (kk := ?_) | refine z_Q (kk := ?_) | refine z_1 (kk := ?_) | refine z_O (kk := ?_) | refine z_2 (kk := ?_) | refine z_g (kk := ?_) | refine z_h (kk := ?_)))
  refine W.loop (fun m ρ w2 => ∃ (i : Nat), m = l.length - i ∧ i ≤ l.length ∧ ρ = [(0, .slice Ac c.length cc), (1, .int .i64 x), (2, .slice A l.length k), (7, .map (some b)), (13, .slice A l.length k), (14, .int .i64 l.length), (15, .int .i64 i)] ∧ Below w.heap.size w w2 ∧ MapL w2 b (holesH c x l i) ∧ ∀ q, q < i → (0 ≤ l.getD q 0 ∧ l.getD q 0 < c.length) ∧ (0 < q → l.getD (q - 1) 0 < l.getD q 0))
    ⟨_, _, ⟨0, rfl, Nat.zero_le _, rfl, hbel1, hm1, fun q hq => by omega⟩, (by repeat (first | exact trivial | refine And.intro rfl ?_))⟩ ?_
  rintro m ρ w2 ⟨i, rfl, hi, rfl, hb2, hm2, hok⟩
  have hbge : w.heap.size ≤ b := by omega
  (repeat (first | with_reducible refine W.seq ?_ | with_reducible refine Ops.nil ?_ | with_reducible refine W.region ?_ | refine z_p (kk := ?_) | refine z_a (kk := ?_) | refine z_y (kk := ?_) | refine z_n (kk := ?_) | refine z_u (kk := ?_) | with_reducible refine W.skip ?_ | with_reducible refine W.endb ?_ | with_reducible refine W.block ?_ | refine W.exit rfl ?_ | refine z_l (kk := ?_) | refine z_f (kk := ?_) | refine z_M (kk := ?_) | refine z_m (kk := ?_) | refine z_e (kk := ?_) | refine z_E (kk := ?_) | refine z_d (kk := ?_) | refine z_I (kk := fun _ => ?_) | refine z_J (kk := fun _ => ?_) | refine z_K (kk := fun _ => ?_) | refine z_L (kk := fun _ => ?_) | refine z_T (kk := ?_) | refine z_F (kk := ?_) | refine z_r (kk := fun _ _ _ _ => ?_) | refine z_D (kk := ?_) | refine z_B (kk := ?_) | refine z_S (kk := ?_) | refine z_Q (kk := ?_) | refine z_1 (kk := ?_) | refine z_O (kk := ?_) | refine z_2 (kk := ?_) | refine z_g (kk := ?_) | refine z_h (kk := ?_)))
  (first | refine W.condD rfl (fun hc => ?_) (fun hc => ?_) | refine W.condE rfl (fun hc => ?_) (fun hc => ?_) | refine W.condN rfl (fun hc => ?_) (fun hc => ?_) | refine W.cond rfl (fun hc => ?_) (fun hc => ?_))
  · have hil : i < l.length := by omega
    (repeat (first | with_reducible refine W.seq ?_ | with_reducible refine Ops.nil ?_ | with_reducible refine W.region ?_ | refine z_p (kk := ?_) | refine z_a (kk := ?_) | refine z_y (kk := ?_) | refine z_n (kk := ?_) | refine z_u (kk := ?_) | with_reducible refine W.skip ?_ | with_reducible refine W.endb ?_ | with_reducible refine W.block ?_ | refine W.exit rfl ?_ | refine z_l (kk := ?_) | refine z_f (kk := ?_) | refine z_M (kk := ?_) | refine z_m (kk := ?_) | refine z_e (kk := ?_) | refine z_E (kk := ?_) | refine z_d (kk := ?_) | refine z_I (kk := fun _ => ?_) | refine z_J (kk := fun _ => ?_) | refine z_K (kk := fun _ => ?_) | refine z_L (kk := fun _ => ?_) | refine z_T (kk := ?_) | refine z_F (kk := ?_) | refine z_r (kk := fun _ _ _ _ => ?_) | refine z_D (kk := ?_) | refine z_B (kk := ?_) | refine z_S (kk := ?_) | refine z_Q (kk := ?_) | refine z_1 (kk := ?_) | refine z_O (kk := ?_) | refine z_2 (kk := ?_) | refine z_g (kk := ?_) | refine z_h (kk := ?_)))
    refine Ops.callS rfl rfl rfl rfl rfl (within_c _ _ _ _) ?_
    cases hin : inR (l.getD i 0) 0 (c.length - 1) with
    | false =>
      (repeat (first | with_reducible refine W.seq ?_ | with_reducible refine Ops.nil ?_ | with_reducible refine W.region ?_ | refine z_p (kk := ?_) | refine z_a (kk := ?_) | refine z_y (kk := ?_) | refine z_n (kk := ?_) | refine z_u (kk := ?_) | with_reducible refine W.skip ?_ | with_reducible refine W.endb ?_ | with_reducible refine W.block ?_ | refine W.exit rfl ?_ | refine z_l (kk := ?_) | refine z_f (kk := ?_) | refine z_M (kk := ?_) | refine z_m (kk := ?_) | refine z_e (kk := ?_) | refine z_E (kk := ?_) | refine z_d (kk := ?_) | refine z_I (kk := fun _ => ?_) | refine z_J (kk := fun _ => ?_) | refine z_K (kk := fun _ => ?_) | refine z_L (kk := fun _ => ?_) | refine z_T (kk := ?_) | refine z_F (kk := ?_) | refine z_r (kk := fun _ _ _ _ => ?_) | refine z_D (kk := ?_) | refine z_B (kk := ?_) | refine z_S (kk := ?_) | refine z_Q (kk := ?_) | refine z_1 (kk := ?_) | refine z_O (kk := ?_) | refine z_2 (kk := ?_) | refine z_g (kk := ?_) | refine z_h (kk := ?_)))
      refine W.condT rfl (by first | rfl | assumption | (simp only [bnf] <;> omega) | (simp only [*, bnf]; done) | fail) ?_
      (repeat (first | with_reducible refine W.seq ?_ | with_reducible refine Ops.nil ?_ | with_reducible refine W.region ?_ | refine z_p (kk := ?_) | refine z_a (kk := ?_) | refine z_y (kk := ?_) | refine z_n (kk := ?_) | refine z_u (kk := ?_) | with_reducible refine W.skip ?_ | with_reducible refine W.endb ?_ | with_reducible refine W.block ?_ | refine W.exit rfl ?_ | refine z_l (kk := ?_) | refine z_f (kk := ?_) | refine z_M (kk := ?_) | refine z_m (kk := ?_) | refine z_e (kk := ?_) | refine z_E (kk := ?_) | refine z_d (kk := ?_) | refine z_I (kk := fun _ => ?_) | refine z_J (kk := fun _ => ?_) | refine z_K (kk := fun _ => ?_) | refine z_L (kk := fun _ => ?_) | refine z_T (kk := ?_) | refine z_F (kk := ?_) | refine z_r (kk := fun _ _ _ _ => ?_) | refine z_D (kk := ?_) | refine z_B (kk := ?_) | refine z_S (kk := ?_) | refine z_Q (kk := ?_) | refine z_1 (kk := ?_) | refine z_O (kk := ?_) | refine z_2 (kk := ?_) | refine z_g (kk := ?_) | refine z_h (kk := ?_)))
      refine W.fret rfl ⟨hdec fun h => ?_, hb2⟩
      have := (h.1 i hil).1
      rw [← Bool.not_eq_true] at hin
      refine hin ?_
      simp only [inR, Bool.and_eq_true, decide_eq_true_eq]
      omega
    | true =>
      simp only [inR, Bool.and_eq_true, decide_eq_true_eq] at hin
      by_cases hbad : 0 < i ∧ l.getD (i - 1) 0 ≥ l.getD i 0
      · obtain ⟨h0, h1⟩ := hbad
        have e1 : ((i : Int) - 1) = ((i - 1 : Nat) : Int) := by omega
        (repeat (first | with_reducible refine W.seq ?_ | with_reducible refine Ops.nil ?_ | with_reducible refine W.region ?_ | refine z_p (kk := ?_) | refine z_a (kk := ?_) | refine z_y (kk := ?_) | refine z_n (kk := ?_) | refine z_u (kk := ?_) | with_reducible refine W.skip ?_ | with_reducible refine W.endb ?_ | with_reducible refine W.block ?_ | refine W.exit rfl ?_ | refine z_l (kk := ?_) | refine z_f (kk := ?_) | refine z_M (kk := ?_) | refine z_m (kk := ?_) | refine z_e (kk := ?_) | refine z_E (kk := ?_) | refine z_d (kk := ?_) | refine z_I (kk := fun _ => ?_) | refine z_J (kk := fun _ => ?_) | refine z_K (kk := fun _ => ?_) | refine z_L (kk := fun _ => ?_) | refine z_T (kk := ?_) | refine z_F (kk := ?_) | refine z_r (kk := fun _ _ _ _ => ?_) | refine z_D (kk := ?_) | refine z_B (kk := ?_) | refine z_S (kk := ?_) | refine z_Q (kk := ?_) | refine z_1 (kk := ?_) | refine z_O (kk := ?_) | refine z_2 (kk := ?_) | refine z_g (kk := ?_) | refine z_h (kk := ?_)))
        rw [e1]
        (repeat (first | with_reducible refine W.seq ?_ | with_reducible refine Ops.nil ?_ | with_reducible refine W.region ?_ | refine z_p (kk := ?_) | refine z_a (kk := ?_) | refine z_y (kk := ?_) | refine z_n (kk := ?_) | refine z_u (kk := ?_) | with_reducible refine W.skip ?_ | with_reducible refine W.endb ?_ | with_reducible refine W.block ?_ | refine W.exit rfl ?_ | refine z_l (kk := ?_) | refine z_f (kk := ?_) | refine z_M (kk := ?_) | refine z_m (kk := ?_) | refine z_e (kk := ?_) | refine z_E (kk := ?_) | refine z_d (kk := ?_) | refine z_I (kk := fun _ => ?_) | refine z_J (kk := fun _ => ?_) | refine z_K (kk := fun _ => ?_) | refine z_L (kk := fun _ => ?_) | refine z_T (kk := ?_) | refine z_F (kk := ?_) | refine z_r (kk := fun _ _ _ _ => ?_) | refine z_D (kk := ?_) | refine z_B (kk := ?_) | refine z_S (kk := ?_) | refine z_Q (kk := ?_) | refine z_1 (kk := ?_) | refine z_O (kk := ?_) | refine z_2 (kk := ?_) | refine z_g (kk := ?_) | refine z_h (kk := ?_)))
        refine W.condT rfl (by first | rfl | assumption | (simp only [bnf] <;> omega) | (simp only [*, bnf]; done) | fail) ?_
        (repeat (first | with_reducible refine W.seq ?_ | with_reducible refine Ops.nil ?_ | with_reducible refine W.region ?_ | refine z_p (kk := ?_) | refine z_a (kk := ?_) | refine z_y (kk := ?_) | refine z_n (kk := ?_) | refine z_u (kk := ?_) | with_reducible refine W.skip ?_ | with_reducible refine W.endb ?_ | with_reducible refine W.block ?_ | refine W.exit rfl ?_ | refine z_l (kk := ?_) | refine z_f (kk := ?_) | refine z_M (kk := ?_) | refine z_m (kk := ?_) | refine z_e (kk := ?_) | refine z_E (kk := ?_) | refine z_d (kk := ?_) | refine z_I (kk := fun _ => ?_) | refine z_J (kk := fun _ => ?_) | refine z_K (kk := fun _ => ?_) | refine z_L (kk := fun _ => ?_) | refine z_T (kk := ?_) | refine z_F (kk := ?_) | refine z_r (kk := fun _ _ _ _ => ?_) | refine z_D (kk := ?_) | refine z_B (kk := ?_) | refine z_S (kk := ?_) | refine z_Q (kk := ?_) | refine z_1 (kk := ?_) | refine z_O (kk := ?_) | refine z_2 (kk := ?_) | refine z_g (kk := ?_) | refine z_h (kk := ?_)))
        exact W.fret rfl ⟨hdec fun h => by have := (h.1 i hil).2 h0; omega, hb2⟩
      · have hgd : 0 < i → l.getD (i - 1) 0 < l.getD i 0 := fun h => by
          by_cases h2 : l.getD (i - 1) 0 < l.getD i 0
          · exact h2
          · exact absurd ⟨h, by omega⟩ hbad
        refine Ops.cut (fun ρ w' => ρ = [(0, .slice Ac c.length cc), (1, .int .i64 x), (2, .slice A l.length k), (7, .map (some b)), (9, .int .i64 (l.getD i 0)), (13, .slice A l.length k), (14, .int .i64 l.length), (15, .int .i64 i), (38, .bool false)] ∧ w' = w2) ?_ ?_
        · by_cases h0 : 0 < i
          · have e1 : ((i : Int) - 1) = ((i - 1 : Nat) : Int) := by omega
            have h3 := hgd h0
            (repeat (first | with_reducible refine W.seq ?_ | with_reducible refine Ops.nil ?_ | with_reducible refine W.region ?_ | refine z_p (kk := ?_) | refine z_a (kk := ?_) | refine z_y (kk := ?_) | refine z_n (kk := ?_) | refine z_u (kk := ?_) | with_reducible refine W.skip ?_ | with_reducible refine W.endb ?_ | with_reducible refine W.block ?_ | refine W.exit rfl ?_ | refine z_l (kk := ?_) | refine z_f (kk := ?_) | refine z_M (kk := ?_) | refine z_m (kk := ?_) | refine z_e (kk := ?_) | refine z_E (kk := ?_) | refine z_d (kk := ?_) | refine z_I (kk := fun _ => ?_) | refine z_J (kk := fun _ => ?_) | refine z_K (kk := fun _ => ?_) | refine z_L (kk := fun _ => ?_) | refine z_T (kk := ?_) | refine z_F (kk := ?_) | refine z_r (kk := fun _ _ _ _ => ?_) | refine z_D (kk := ?_) | refine z_B (kk := ?_) | refine z_S (kk := ?_) | refine z_Q (kk := ?_) | refine z_1 (kk := ?_) | refine z_O (kk := ?_) | refine z_2 (kk := ?_) | refine z_g (kk := ?_) | refine z_h (kk := ?_)))
            rw [e1]
            (repeat (first | with_reducible refine W.seq ?_ | with_reducible refine Ops.nil ?_ | with_reducible refine W.region ?_ | refine z_p (kk := ?_) | refine z_a (kk := ?_) | refine z_y (kk := ?_) | refine z_n (kk := ?_) | refine z_u (kk := ?_) | with_reducible refine W.skip ?_ | with_reducible refine W.endb ?_ | with_reducible refine W.block ?_ | refine W.exit rfl ?_ | refine z_l (kk := ?_) | refine z_f (kk := ?_) | refine z_M (kk := ?_) | refine z_m (kk := ?_) | refine z_e (kk := ?_) | refine z_E (kk := ?_) | refine z_d (kk := ?_) | refine z_I (kk := fun _ => ?_) | refine z_J (kk := fun _ => ?_) | refine z_K (kk := fun _ => ?_) | refine z_L (kk := fun _ => ?_) | refine z_T (kk := ?_) | refine z_F (kk := ?_) | refine z_r (kk := fun _ _ _ _ => ?_) | refine z_D (kk := ?_) | refine z_B (kk := ?_) | refine z_S (kk := ?_) | refine z_Q (kk := ?_) | refine z_1 (kk := ?_) | refine z_O (kk := ?_) | refine z_2 (kk := ?_) | refine z_g (kk := ?_) | refine z_h (kk := ?_)))
            exact W.endl ⟨_, ⟨rfl, rfl⟩, (by repeat (first | exact trivial | refine And.intro rfl ?_ | refine And.intro (look_b rfl (by first | rfl | assumption | (simp only [bnf] <;> omega) | (simp only [*, bnf]; done) | fail)) ?_))⟩
          · (repeat (first | with_reducible refine W.seq ?_ | with_reducible refine Ops.nil ?_ | with_reducible refine W.region ?_ | refine z_p (kk := ?_) | refine z_a (kk := ?_) | refine z_y (kk := ?_) | refine z_n (kk := ?_) | refine z_u (kk := ?_) | with_reducible refine W.skip ?_ | with_reducible refine W.endb ?_ | with_reducible refine W.block ?_ | refine W.exit rfl ?_ | refine z_l (kk := ?_) | refine z_f (kk := ?_) | refine z_M (kk := ?_) | refine z_m (kk := ?_) | refine z_e (kk := ?_) | refine z_E (kk := ?_) | refine z_d (kk := ?_) | refine z_I (kk := fun _ => ?_) | refine z_J (kk := fun _ => ?_) | refine z_K (kk := fun _ => ?_) | refine z_L (kk := fun _ => ?_) | refine z_T (kk := ?_) | refine z_F (kk := ?_) | refine z_r (kk := fun _ _ _ _ => ?_) | refine z_D (kk := ?_) | refine z_B (kk := ?_) | refine z_S (kk := ?_) | refine z_Q (kk := ?_) | refine z_1 (kk := ?_) | refine z_O (kk := ?_) | refine z_2 (kk := ?_) | refine z_g (kk := ?_) | refine z_h (kk := ?_)))
            exact W.endl ⟨_, ⟨rfl, rfl⟩, (by repeat (first | exact trivial | refine And.intro rfl ?_ | refine And.intro (look_b rfl (by first | rfl | assumption | (simp only [bnf] <;> omega) | (simp only [*, bnf]; done) | fail)) ?_))⟩
        rintro ρ w3 ⟨rfl, rfl⟩
        have hri : row c (l.getD i 0) = c.getD (l.getD i 0).toNat [] := rfl
        have hcl := hC.len (l.getD i 0).toNat (by omega)
        rw [← hri] at hcl
        (repeat (first | with_reducible refine W.seq ?_ | with_reducible refine Ops.nil ?_ | with_reducible refine W.region ?_ | refine z_p (kk := ?_) | refine z_a (kk := ?_) | refine z_y (kk := ?_) | refine z_n (kk := ?_) | refine z_u (kk := ?_) | with_reducible refine W.skip ?_ | with_reducible refine W.endb ?_ | with_reducible refine W.block ?_ | refine W.exit rfl ?_ | refine z_l (kk := ?_) | refine z_f (kk := ?_) | refine z_M (kk := ?_) | refine z_m (kk := ?_) | refine z_e (kk := ?_) | refine z_E (kk := ?_) | refine z_d (kk := ?_) | refine z_I (kk := fun _ => ?_) | refine z_J (kk := fun _ => ?_) | refine z_K (kk := fun _ => ?_) | refine z_L (kk := fun _ => ?_) | refine z_T (kk := ?_) | refine z_F (kk := ?_) | refine z_r (kk := fun _ _ _ _ => ?_) | refine z_D (kk := ?_) | refine z_B (kk := ?_) | refine z_S (kk := ?_) | refine z_Q (kk := ?_) | refine z_1 (kk := ?_) | refine z_O (kk := ?_) | refine z_2 (kk := ?_) | refine z_g (kk := ?_) | refine z_h (kk := ?_)))
        refine W.condF rfl (by first | rfl | assumption | (simp only [bnf] <;> omega) | (simp only [*, bnf]; done) | fail) ?_
        (repeat (first | with_reducible refine W.seq ?_ | with_reducible refine Ops.nil ?_ | with_reducible refine W.region ?_ | refine z_p (kk := ?_) | refine z_a (kk := ?_) | refine z_y (kk := ?_) | refine z_n (kk := ?_) | refine z_u (kk := ?_) | with_reducible refine W.skip ?_ | with_reducible refine W.endb ?_ | with_reducible refine W.block ?_ | refine W.exit rfl ?_ | refine z_l (kk := ?_) | refine z_f (kk := ?_) | refine z_M (kk := ?_) | refine z_m (kk := ?_) | refine z_e (kk := ?_) | refine z_E (kk := ?_) | refine z_d (kk := ?_) | refine z_I (kk := fun _ => ?_) | refine z_J (kk := fun _ => ?_) | refine z_K (kk := fun _ => ?_) | refine z_L (kk := fun _ => ?_) | refine z_T (kk := ?_) | refine z_F (kk := ?_) | refine z_r (kk := fun _ _ _ _ => ?_) | refine z_D (kk := ?_) | refine z_B (kk := ?_) | refine z_S (kk := ?_) | refine z_Q (kk := ?_) | refine z_1 (kk := ?_) | refine z_O (kk := ?_) | refine z_2 (kk := ?_) | refine z_g (kk := ?_) | refine z_h (kk := ?_)))
        rename_i Ar mr pr hsl
        refine W.loop (fun m ρ w4 => ∃ (j : Nat), m = c.length - j ∧ j ≤ c.length ∧ ρ = [(0, .slice Ac c.length cc), (1, .int .i64 x), (2, .slice A l.length k), (7, .map (some b)), (13, .slice A l.length k), (14, .int .i64 l.length), (15, .int .i64 i), (42, .slice Ar (row c (l.getD i 0)).length mr), (43, .int .i64 (row c (l.getD i 0)).length), (44, .int .i64 j)] ∧ Below w.heap.size w w4 ∧ MapL w4 b (rowH (row c (l.getD i 0)) x (holesH c x l i) j))
          ⟨_, _, ⟨0, rfl, Nat.zero_le _, rfl, hb2, hm2⟩, (by repeat (first | exact trivial | refine And.intro rfl ?_))⟩ ?_
        rintro m ρ w4 ⟨j, rfl, hj, rfl, hb4, hm4⟩
        (repeat (first | with_reducible refine W.seq ?_ | with_reducible refine Ops.nil ?_ | with_reducible refine W.region ?_ | refine z_p (kk := ?_) | refine z_a (kk := ?_) | refine z_y (kk := ?_) | refine z_n (kk := ?_) | refine z_u (kk := ?_) | with_reducible refine W.skip ?_ | with_reducible refine W.endb ?_ | with_reducible refine W.block ?_ | refine W.exit rfl ?_ | refine z_l (kk := ?_) | refine z_f (kk := ?_) | refine z_M (kk := ?_) | refine z_m (kk := ?_) | refine z_e (kk := ?_) | refine z_E (kk := ?_) | refine z_d (kk := ?_) | refine z_I (kk := fun _ => ?_) | refine z_J (kk := fun _ => ?_) | refine z_K (kk := fun _ => ?_) | refine z_L (kk := fun _ => ?_) | refine z_T (kk := ?_) | refine z_F (kk := ?_) | refine z_r (kk := fun _ _ _ _ => ?_) | refine z_D (kk := ?_) | refine z_B (kk := ?_) | refine z_S (kk := ?_) | refine z_Q (kk := ?_) | refine z_1 (kk := ?_) | refine z_O (kk := ?_) | refine z_2 (kk := ?_) | refine z_g (kk := ?_) | refine z_h (kk := ?_)))
        (first | refine W.condD rfl (fun hc => ?_) (fun hc => ?_) | refine W.condE rfl (fun hc => ?_) (fun hc => ?_) | refine W.condN rfl (fun hc => ?_) (fun hc => ?_) | refine W.cond rfl (fun hc => ?_) (fun hc => ?_))
        · have hjl : j < c.length := by omega
          by_cases hle : (row c (l.getD i 0)).getD j 0 ≤ x
          · (repeat (first | with_reducible refine W.seq ?_ | with_reducible refine Ops.nil ?_ | with_reducible refine W.region ?_ | refine z_p (kk := ?_) | refine z_a (kk := ?_) | refine z_y (kk := ?_) | refine z_n (kk := ?_) | refine z_u (kk := ?_) | with_reducible refine W.skip ?_ | with_reducible refine W.endb ?_ | with_reducible refine W.block ?_ | refine W.exit rfl ?_ | refine z_l (kk := ?_) | refine z_f (kk := ?_) | refine z_M (kk := ?_) | refine z_m (kk := ?_) | refine z_e (kk := ?_) | refine z_E (kk := ?_) | refine z_d (kk := ?_) | refine z_I (kk := fun _ => ?_) | refine z_J (kk := fun _ => ?_) | refine z_K (kk := fun _ => ?_) | refine z_L (kk := fun _ => ?_) | refine z_T (kk := ?_) | refine z_F (kk := ?_) | refine z_r (kk := fun _ _ _ _ => ?_) | refine z_D (kk := ?_) | refine z_B (kk := ?_) | refine z_S (kk := ?_) | refine z_Q (kk := ?_) | refine z_1 (kk := ?_) | refine z_O (kk := ?_) | refine z_2 (kk := ?_) | refine z_g (kk := ?_) | refine z_h (kk := ?_)))
            refine W.condT rfl (by first | rfl | assumption | (simp only [bnf] <;> omega) | (simp only [*, bnf]; done) | fail) ?_
            (repeat (first | with_reducible refine W.seq ?_ | with_reducible refine Ops.nil ?_ | with_reducible refine W.region ?_ | refine z_p (kk := ?_) | refine z_a (kk := ?_) | refine z_y (kk := ?_) | refine z_n (kk := ?_) | refine z_u (kk := ?_) | with_reducible refine W.skip ?_ | with_reducible refine W.endb ?_ | with_reducible refine W.block ?_ | refine W.exit rfl ?_ | refine z_l (kk := ?_) | refine z_f (kk := ?_) | refine z_M (kk := ?_) | refine z_m (kk := ?_) | refine z_e (kk := ?_) | refine z_E (kk := ?_) | refine z_d (kk := ?_) | refine z_I (kk := fun _ => ?_) | refine z_J (kk := fun _ => ?_) | refine z_K (kk := fun _ => ?_) | refine z_L (kk := fun _ => ?_) | refine z_T (kk := ?_) | refine z_F (kk := ?_) | refine z_r (kk := fun _ _ _ _ => ?_) | refine z_D (kk := ?_) | refine z_B (kk := ?_) | refine z_S (kk := ?_) | refine z_Q (kk := ?_) | refine z_1 (kk := ?_) | refine z_O (kk := ?_) | refine z_2 (kk := ?_) | refine z_g (kk := ?_) | refine z_h (kk := ?_)))
            refine Ops.putL rfl rfl rfl rfl rfl rfl rfl rfl hm4 (fun w5 hm5 hk5 hs5 => ?_)
            (repeat (first | with_reducible refine W.seq ?_ | with_reducible refine Ops.nil ?_ | with_reducible refine W.region ?_ | refine z_p (kk := ?_) | refine z_a (kk := ?_) | refine z_y (kk := ?_) | refine z_n (kk := ?_) | refine z_u (kk := ?_) | with_reducible refine W.skip ?_ | with_reducible refine W.endb ?_ | with_reducible refine W.block ?_ | refine W.exit rfl ?_ | refine z_l (kk := ?_) | refine z_f (kk := ?_) | refine z_M (kk := ?_) | refine z_m (kk := ?_) | refine z_e (kk := ?_) | refine z_E (kk := ?_) | refine z_d (kk := ?_) | refine z_I (kk := fun _ => ?_) | refine z_J (kk := fun _ => ?_) | refine z_K (kk := fun _ => ?_) | refine z_L (kk := fun _ => ?_) | refine z_T (kk := ?_) | refine z_F (kk := ?_) | refine z_r (kk := fun _ _ _ _ => ?_) | refine z_D (kk := ?_) | refine z_B (kk := ?_) | refine z_S (kk := ?_) | refine z_Q (kk := ?_) | refine z_1 (kk := ?_) | refine z_O (kk := ?_) | refine z_2 (kk := ?_) | refine z_g (kk := ?_) | refine z_h (kk := ?_)))
            refine W.endl ⟨_, _, ⟨⟨j + 1, rfl, by omega, rfl, Below.put hb4 hk5 (fun i e => by omega), ?_⟩, by omega⟩, (by repeat (first | exact trivial | refine And.intro rfl ?_))⟩
            rw [rowH, if_pos hle]
            exact hm5
          · (repeat (first | with_reducible refine W.seq ?_ | with_reducible refine Ops.nil ?_ | with_reducible refine W.region ?_ | refine z_p (kk := ?_) | refine z_a (kk := ?_) | refine z_y (kk := ?_) | refine z_n (kk := ?_) | refine z_u (kk := ?_) | with_reducible refine W.skip ?_ | with_reducible refine W.endb ?_ | with_reducible refine W.block ?_ | refine W.exit rfl ?_ | refine z_l (kk := ?_) | refine z_f (kk := ?_) | refine z_M (kk := ?_) | refine z_m (kk := ?_) | refine z_e (kk := ?_) | refine z_E (kk := ?_) | refine z_d (kk := ?_) | refine z_I (kk := fun _ => ?_) | refine z_J (kk := fun _ => ?_) | refine z_K (kk := fun _ => ?_) | refine z_L (kk := fun _ => ?_) | refine z_T (kk := ?_) | refine z_F (kk := ?_) | refine z_r (kk := fun _ _ _ _ => ?_) | refine z_D (kk := ?_) | refine z_B (kk := ?_) | refine z_S (kk := ?_) | refine z_Q (kk := ?_) | refine z_1 (kk := ?_) | refine z_O (kk := ?_) | refine z_2 (kk := ?_) | refine z_g (kk := ?_) | refine z_h (kk := ?_)))
            refine W.condF rfl (by first | rfl | assumption | (simp only [bnf] <;> omega) | (simp only [*, bnf]; done) | fail) ?_
            (repeat (first | with_reducible refine W.seq ?_ | with_reducible refine Ops.nil ?_ | with_reducible refine W.region ?_ | refine z_p (kk := ?_) | refine z_a (kk := ?_) | refine z_y (kk := ?_) | refine z_n (kk := ?_) | refine z_u (kk := ?_) | with_reducible refine W.skip ?_ | with_reducible refine W.endb ?_ | with_reducible refine W.block ?_ | refine W.exit rfl ?_ | refine z_l (kk := ?_) | refine z_f (kk := ?_) | refine z_M (kk := ?_) | refine z_m (kk := ?_) | refine z_e (kk := ?_) | refine z_E (kk := ?_) | refine z_d (kk := ?_) | refine z_I (kk := fun _ => ?_) | refine z_J (kk := fun _ => ?_) | refine z_K (kk := fun _ => ?_) | refine z_L (kk := fun _ => ?_) | refine z_T (kk := ?_) | refine z_F (kk := ?_) | refine z_r (kk := fun _ _ _ _ => ?_) | refine z_D (kk := ?_) | refine z_B (kk := ?_) | refine z_S (kk := ?_) | refine z_Q (kk := ?_) | refine z_1 (kk := ?_) | refine z_O (kk := ?_) | refine z_2 (kk := ?_) | refine z_g (kk := ?_) | refine z_h (kk := ?_)))
            refine W.endl ⟨_, _, ⟨⟨j + 1, rfl, by omega, rfl, hb4, ?_⟩, by omega⟩, (by repeat (first | exact trivial | refine And.intro rfl ?_))⟩
            rw [rowH, if_neg hle]
            exact hm4
        · have hjl : j = c.length := by omega
          subst hjl
          (repeat (first | with_reducible refine W.seq ?_ | with_reducible refine Ops.nil ?_ | with_reducible refine W.region ?_ | refine z_p (kk := ?_) | refine z_a (kk := ?_) | refine z_y (kk := ?_) | refine z_n (kk := ?_) | refine z_u (kk := ?_) | with_reducible refine W.skip ?_ | with_reducible refine W.endb ?_ | with_reducible refine W.block ?_ | refine W.exit rfl ?_ | refine z_l (kk := ?_) | refine z_f (kk := ?_) | refine z_M (kk := ?_) | refine z_m (kk := ?_) | refine z_e (kk := ?_) | refine z_E (kk := ?_) | refine z_d (kk := ?_) | refine z_I (kk := fun _ => ?_) | refine z_J (kk := fun _ => ?_) | refine z_K (kk := fun _ => ?_) | refine z_L (kk := fun _ => ?_) | refine z_T (kk := ?_) | refine z_F (kk := ?_) | refine z_r (kk := fun _ _ _ _ => ?_) | refine z_D (kk := ?_) | refine z_B (kk := ?_) | refine z_S (kk := ?_) | refine z_Q (kk := ?_) | refine z_1 (kk := ?_) | refine z_O (kk := ?_) | refine z_2 (kk := ?_) | refine z_g (kk := ?_) | refine z_h (kk := ?_)))
          refine W.endl ⟨_, _, ⟨⟨i + 1, rfl, by omega, rfl, hb4, hm4, fun q hq => ?_⟩, by omega⟩, (by repeat (first | exact trivial | refine And.intro rfl ?_))⟩
          by_cases e : q = i
          · rw [e]; exact ⟨⟨by omega, by omega⟩, hgd⟩
          · exact hok q (by omega)
  · have hil : i = l.length := by omega
    subst hil
    (repeat (first | with_reducible refine W.seq ?_ | with_reducible refine Ops.nil ?_ | with_reducible refine W.region ?_ | refine z_p (kk := ?_) | refine z_a (kk := ?_) | refine z_y (kk := ?_) | refine z_n (kk := ?_) | refine z_u (kk := ?_) | with_reducible refine W.skip ?_ | with_reducible refine W.endb ?_ | with_reducible refine W.block ?_ | refine W.exit rfl ?_ | refine z_l (kk := ?_) | refine z_f (kk := ?_) | refine z_M (kk := ?_) | refine z_m (kk := ?_) | refine z_e (kk := ?_) | refine z_E (kk := ?_) | refine z_d (kk := ?_) | refine z_I (kk := fun _ => ?_) | refine z_J (kk := fun _ => ?_) | refine z_K (kk := fun _ => ?_) | refine z_L (kk := fun _ => ?_) | refine z_T (kk := ?_) | refine z_F (kk := ?_) | refine z_r (kk := fun _ _ _ _ => ?_) | refine z_D (kk := ?_) | refine z_B (kk := ?_) | refine z_S (kk := ?_) | refine z_Q (kk := ?_) | refine z_1 (kk := ?_) | refine z_O (kk := ?_) | refine z_2 (kk := ?_) | refine z_g (kk := ?_) | refine z_h (kk := ?_)))
    refine Ops.lenM rfl rfl rfl rfl rfl hm2 ?_
    (repeat (first | with_reducible refine W.seq ?_ | with_reducible refine Ops.nil ?_ | with_reducible refine W.region ?_ | refine z_p (kk := ?_) | refine z_a (kk := ?_) | refine z_y (kk := ?_) | refine z_n (kk := ?_) | refine z_u (kk := ?_) | with_reducible refine W.skip ?_ | with_reducible refine W.endb ?_ | with_reducible refine W.block ?_ | refine W.exit rfl ?_ | refine z_l (kk := ?_) | refine z_f (kk := ?_) | refine z_M (kk := ?_) | refine z_m (kk := ?_) | refine z_e (kk := ?_) | refine z_E (kk := ?_) | refine z_d (kk := ?_) | refine z_I (kk := fun _ => ?_) | refine z_J (kk := fun _ => ?_) | refine z_K (kk := fun _ => ?_) | refine z_L (kk := fun _ => ?_) | refine z_T (kk := ?_) | refine z_F (kk := ?_) | refine z_r (kk := fun _ _ _ _ => ?_) | refine z_D (kk := ?_) | refine z_B (kk := ?_) | refine z_S (kk := ?_) | refine z_Q (kk := ?_) | refine z_1 (kk := ?_) | refine z_O (kk := ?_) | refine z_2 (kk := ?_) | refine z_g (kk := ?_) | refine z_h (kk := ?_)))
    refine W.fret rfl ⟨?_, hb2⟩
    show Value.bool _ = _
    congr 1
    rw [Bool.eq_iff_iff, decide_eq_true_iff, decide_eq_true_iff]
    exact ⟨fun h => ⟨hok, by omega⟩, fun h => by have := h.2; omega⟩
theorem IsBlock_c {w : World} {cv lv : Value} {c : List (List Int)} {x : Int} {l : List Int} (hM : RowsM w cv c) (hl : SlI w lv l) :
    Calls Try.prog 19 #[cv, .int .i64 x, lv] w (Ret fun r w' => r = (if costsB c then .tuple #[.bool (decide (BlkS c x l)), .int .i64 0] else .tuple #[.bool false, .int .i64 2]) ∧ Below w.heap.size w w') := by
  obtain ⟨Ac, cc, rfl⟩ := hM.sl
  refine calls_W (vs := [_, _, _]) Try.func19 rfl (by kernel_rfl) rfl ?_
  (repeat (first | with_reducible refine W.seq ?_ | with_reducible refine Ops.nil ?_ | with_reducible refine W.region ?_ | refine z_p (kk := ?_) | refine z_a (kk := ?_) | refine z_y (kk := ?_) | refine z_n (kk := ?_) | refine z_u (kk := ?_) | with_reducible refine W.skip ?_ | with_reducible refine W.endb ?_ | with_reducible refine W.block ?_ | refine W.exit rfl ?_ | refine z_l (kk := ?_) | refine z_f (kk := ?_) | refine z_M (kk := ?_) | refine z_m (kk := ?_) | refine z_e (kk := ?_) | refine z_E (kk := ?_) | refine z_d (kk := ?_) | refine z_I (kk := fun _ => ?_) | refine z_J (kk := fun _ => ?_) | refine z_K (kk := fun _ => ?_) | refine z_L (kk := fun _ => ?_) | refine z_T (kk := ?_) | refine z_F (kk := ?_) | refine z_r (kk := fun _ _ _ _ => ?_) | refine z_D (kk := ?_) | refine z_B (kk := ?_) | refine z_S (kk := ?_) | refine z_Q (kk := ?_) | refine z_1 (kk := ?_) | refine z_O (kk := ?_) | refine z_2 (kk := ?_) | refine z_g (kk := ?_) | refine z_h (kk := ?_)))
  refine Ops.call rfl rfl rfl rfl rfl (areCosts_c hM) (fun r w1 hR => ?_)
  obtain ⟨rfl, hb1⟩ := hR
  cases hcB : costsB c with
  | false =>
    (repeat (first | with_reducible refine W.seq ?_ | with_reducible refine Ops.nil ?_ | with_reducible refine W.region ?_ | refine z_p (kk := ?_) | refine z_a (kk := ?_) | refine z_y (kk := ?_) | refine z_n (kk := ?_) | refine z_u (kk := ?_) | with_reducible refine W.skip ?_ | with_reducible refine W.endb ?_ | with_reducible refine W.block ?_ | refine W.exit rfl ?_ | refine z_l (kk := ?_) | refine z_f (kk := ?_) | refine z_M (kk := ?_) | refine z_m (kk := ?_) | refine z_e (kk := ?_) | refine z_E (kk := ?_) | refine z_d (kk := ?_) | refine z_I (kk := fun _ => ?_) | refine z_J (kk := fun _ => ?_) | refine z_K (kk := fun _ => ?_) | refine z_L (kk := fun _ => ?_) | refine z_T (kk := ?_) | refine z_F (kk := ?_) | refine z_r (kk := fun _ _ _ _ => ?_) | refine z_D (kk := ?_) | refine z_B (kk := ?_) | refine z_S (kk := ?_) | refine z_Q (kk := ?_) | refine z_1 (kk := ?_) | refine z_O (kk := ?_) | refine z_2 (kk := ?_) | refine z_g (kk := ?_) | refine z_h (kk := ?_)))
    refine W.condT rfl (by first | rfl | assumption | (simp only [bnf] <;> omega) | (simp only [*, bnf]; done) | fail) ?_
    (repeat (first | with_reducible refine W.seq ?_ | with_reducible refine Ops.nil ?_ | with_reducible refine W.region ?_ | refine z_p (kk := ?_) | refine z_a (kk := ?_) | refine z_y (kk := ?_) | refine z_n (kk := ?_) | refine z_u (kk := ?_) | with_reducible refine W.skip ?_ | with_reducible refine W.endb ?_ | with_reducible refine W.block ?_ | refine W.exit rfl ?_ | refine z_l (kk := ?_) | refine z_f (kk := ?_) | refine z_M (kk := ?_) | refine z_m (kk := ?_) | refine z_e (kk := ?_) | refine z_E (kk := ?_) | refine z_d (kk := ?_) | refine z_I (kk := fun _ => ?_) | refine z_J (kk := fun _ => ?_) | refine z_K (kk := fun _ => ?_) | refine z_L (kk := fun _ => ?_) | refine z_T (kk := ?_) | refine z_F (kk := ?_) | refine z_r (kk := fun _ _ _ _ => ?_) | refine z_D (kk := ?_) | refine z_B (kk := ?_) | refine z_S (kk := ?_) | refine z_Q (kk := ?_) | refine z_1 (kk := ?_) | refine z_O (kk := ?_) | refine z_2 (kk := ?_) | refine z_g (kk := ?_) | refine z_h (kk := ?_)))
    exact W.fret rfl ⟨rfl, hb1⟩
  | true =>
    (repeat (first | with_reducible refine W.seq ?_ | with_reducible refine Ops.nil ?_ | with_reducible refine W.region ?_ | refine z_p (kk := ?_) | refine z_a (kk := ?_) | refine z_y (kk := ?_) | refine z_n (kk := ?_) | refine z_u (kk := ?_) | with_reducible refine W.skip ?_ | with_reducible refine W.endb ?_ | with_reducible refine W.block ?_ | refine W.exit rfl ?_ | refine z_l (kk := ?_) | refine z_f (kk := ?_) | refine z_M (kk := ?_) | refine z_m (kk := ?_) | refine z_e (kk := ?_) | refine z_E (kk := ?_) | refine z_d (kk := ?_) | refine z_I (kk := fun _ => ?_) | refine z_J (kk := fun _ => ?_) | refine z_K (kk := fun _ => ?_) | refine z_L (kk := fun _ => ?_) | refine z_T (kk := ?_) | refine z_F (kk := ?_) | refine z_r (kk := fun _ _ _ _ => ?_) | refine z_D (kk := ?_) | refine z_B (kk := ?_) | refine z_S (kk := ?_) | refine z_Q (kk := ?_) | refine z_1 (kk := ?_) | refine z_O (kk := ?_) | refine z_2 (kk := ?_) | refine z_g (kk := ?_) | refine z_h (kk := ?_)))
    refine W.condF rfl (by first | rfl | assumption | (simp only [bnf] <;> omega) | (simp only [*, bnf]; done) | fail) ?_
    (repeat (first | with_reducible refine W.seq ?_ | with_reducible refine Ops.nil ?_ | with_reducible refine W.region ?_ | refine z_p (kk := ?_) | refine z_a (kk := ?_) | refine z_y (kk := ?_) | refine z_n (kk := ?_) | refine z_u (kk := ?_) | with_reducible refine W.skip ?_ | with_reducible refine W.endb ?_ | with_reducible refine W.block ?_ | refine W.exit rfl ?_ | refine z_l (kk := ?_) | refine z_f (kk := ?_) | refine z_M (kk := ?_) | refine z_m (kk := ?_) | refine z_e (kk := ?_) | refine z_E (kk := ?_) | refine z_d (kk := ?_) | refine z_I (kk := fun _ => ?_) | refine z_J (kk := fun _ => ?_) | refine z_K (kk := fun _ => ?_) | refine z_L (kk := fun _ => ?_) | refine z_T (kk := ?_) | refine z_F (kk := ?_) | refine z_r (kk := fun _ _ _ _ => ?_) | refine z_D (kk := ?_) | refine z_B (kk := ?_) | refine z_S (kk := ?_) | refine z_Q (kk := ?_) | refine z_1 (kk := ?_) | refine z_O (kk := ?_) | refine z_2 (kk := ?_) | refine z_g (kk := ?_) | refine z_h (kk := ?_)))
    refine Ops.call rfl rfl rfl rfl rfl (isBlock_c (hM.below hb1) (costs_iff.1 hcB) (Sl.below hl hb1)) (fun v w2 hR => ?_)
    obtain ⟨rfl, hb2⟩ := hR
    (repeat (first | with_reducible refine W.seq ?_ | with_reducible refine Ops.nil ?_ | with_reducible refine W.region ?_ | refine z_p (kk := ?_) | refine z_a (kk := ?_) | refine z_y (kk := ?_) | refine z_n (kk := ?_) | refine z_u (kk := ?_) | with_reducible refine W.skip ?_ | with_reducible refine W.endb ?_ | with_reducible refine W.block ?_ | refine W.exit rfl ?_ | refine z_l (kk := ?_) | refine z_f (kk := ?_) | refine z_M (kk := ?_) | refine z_m (kk := ?_) | refine z_e (kk := ?_) | refine z_E (kk := ?_) | refine z_d (kk := ?_) | refine z_I (kk := fun _ => ?_) | refine z_J (kk := fun _ => ?_) | refine z_K (kk := fun _ => ?_) | refine z_L (kk := fun _ => ?_) | refine z_T (kk := ?_) | refine z_F (kk := ?_) | refine z_r (kk := fun _ _ _ _ => ?_) | refine z_D (kk := ?_) | refine z_B (kk := ?_) | refine z_S (kk := ?_) | refine z_Q (kk := ?_) | refine z_1 (kk := ?_) | refine z_O (kk := ?_) | refine z_2 (kk := ?_) | refine z_g (kk := ?_) | refine z_h (kk := ?_)))
    exact W.fret rfl ⟨rfl, Below.via hb1 hb2⟩
end Go.Proofs.Ytehjmakiljhjdaa
/- slices.Sort at a slice of the call's own. (lays189: laid by the kit's shelf tool.) -/
namespace Go.Proofs
open Go.Shelf
def Try.lays189_ren : Go.Shelf.Ren := ⟨fun | 189 => 55 | 125 => 87 | 257 => 86 | 128 => 107 | 129 => 108 | 294 => 98 | 295 => 99 | 296 => 100 | 297 => 101 | 298 => 102 | 299 => 103 | 216 => 104 | 300 => 105 | 301 => 106 | 328 => 121 | 329 => 122 | 330 => 123 | 331 => 124 | 332 => 125 | 215 => 92 | 343 => 130 | n => n, fun | 28 => 23 | 3 => 3 | 46 => 74 | 0 => 0 | 51 => 127 | 53 => 129 | 4 => 4 | 183 => 121 | 182 => 120 | 131 => 109 | 5 => 5 | 9 => 9 | 218 => 141 | 222 => 145 | 228 => 149 | 229 => 150 | n => n, fun | n => n⟩
theorem Try.lays189 : Go.Proofs.Lays.n189 Try.prog Try.lays189_ren := {
  mixed := by kernel_rfl
  f125 := Try.func87.trans (congrArg some (by kernel_rfl))
  f128 := Try.func107.trans (congrArg some (by kernel_rfl))
  f129 := Try.func108.trans (congrArg some (by kernel_rfl))
  f189 := Try.func55.trans (congrArg some (by kernel_rfl))
  f215 := Try.func92.trans (congrArg some (by kernel_rfl))
  f216 := Try.func104.trans (congrArg some (by kernel_rfl))
  f257 := Try.func86.trans (congrArg some (by kernel_rfl))
  f294 := Try.func98.trans (congrArg some (by kernel_rfl))
  f295 := Try.func99.trans (congrArg some (by kernel_rfl))
  f296 := Try.func100.trans (congrArg some (by kernel_rfl))
  f297 := Try.func101.trans (congrArg some (by kernel_rfl))
  f298 := Try.func102.trans (congrArg some (by kernel_rfl))
  f299 := Try.func103.trans (congrArg some (by kernel_rfl))
  f300 := Try.func105.trans (congrArg some (by kernel_rfl))
  f301 := Try.func106.trans (congrArg some (by kernel_rfl))
  f328 := Try.func121.trans (congrArg some (by kernel_rfl))
  f329 := Try.func122.trans (congrArg some (by kernel_rfl))
  f330 := Try.func123.trans (congrArg some (by kernel_rfl))
  f331 := Try.func124.trans (congrArg some (by kernel_rfl))
  f332 := Try.func125.trans (congrArg some (by kernel_rfl))
  f343 := Try.func130.trans (congrArg some (by kernel_rfl))
  t0 := Try.underlying0
  a0 := Try.isAgg0
  z0 := Try.sizeOf0
  v0 := Try.zeroValue0
  t3 := Try.underlying3
  a3 := Try.isAgg3
  z3 := Try.sizeOf3
  v3 := Try.zeroValue3
  t4 := Try.underlying4
  a4 := Try.isAgg4
  z4 := Try.sizeOf4
  v4 := Try.zeroValue4
  t5 := Try.underlying5
  a5 := Try.isAgg5
  z5 := Try.sizeOf5
  v5 := Try.zeroValue5
  t9 := Try.underlying9
  a9 := Try.isAgg9
  z9 := Try.sizeOf9
  v9 := Try.zeroValue9
  t28 := Try.underlying23
  a28 := Try.isAgg23
  z28 := Try.sizeOf23
  v28 := Try.zeroValue23
  t46 := Try.underlying74
  a46 := Try.isAgg74
  z46 := Try.sizeOf74
  v46 := Try.zeroValue74
  t51 := Try.underlying127
  a51 := Try.isAgg127
  z51 := Try.sizeOf127
  v51 := Try.zeroValue127
  t53 := Try.underlying129
  a53 := Try.isAgg129
  z53 := Try.sizeOf129
  v53 := Try.zeroValue129
  t131 := Try.underlying109
  a131 := Try.isAgg109
  z131 := Try.sizeOf109
  v131 := Try.zeroValue109
  t182 := Try.underlying120
  a182 := Try.isAgg120
  z182 := Try.sizeOf120
  v182 := Try.zeroValue120
  t183 := Try.underlying121
  a183 := Try.isAgg121
  z183 := Try.sizeOf121
  v183 := Try.zeroValue121
  t218 := Try.underlying141
  a218 := Try.isAgg141
  z218 := Try.sizeOf141
  v218 := Try.zeroValue141
  t222 := Try.underlying145
  a222 := Try.isAgg145
  z222 := Try.sizeOf145
  v222 := Try.zeroValue145
  t228 := Try.underlying149
  a228 := Try.isAgg149
  z228 := Try.sizeOf149
  v228 := Try.zeroValue149
  t229 := Try.underlying150
  a229 := Try.isAgg150
  z229 := Try.sizeOf150
  v229 := Try.zeroValue150 }
open Go.Sort Go.RowKit in
theorem Try.slices_Sort_int (blk off cap : Nat) (zs : List Int) (w : World) (hH : Holds (Value.int .i64) w blk off zs.toArray) (hblk : blk < w.heap.size) (hsz : zs.length < 4611686018427387904) :
    Calls Try.prog 55 #[.slice (some ⟨blk, off, none⟩) zs.length cap] w fun e w' =>
      e = .returned (.tuple #[]) ∧ ∃ n os, w' = grow (putRow (Value.int .i64) (Sort.ahead w n) blk off (zs.mergeSort fun x y => decide (x ≤ y)).toArray) os := Any.slices_Sort_int Try.lays189 blk off cap zs w hH hblk hsz
end Go.Proofs
namespace Go.Proofs.Ytehjmakiljhjdaa
open Go Go.RowKit Go.Proofs.Ytehjmakiljhjdaa.VW
theorem sort_c {w : World} {v : Value} {xs : List Int} (hown : w.ownsRow 0 3 1 v xs.length (xs.map (Value.int .i64))) (hp : 0 < xs.length) (hl : xs.length < 4611686018427387904) :
    Calls Try.prog 55 #[v] w (Ret fun r w' => r = .tuple #[] ∧ w'.ownsRow 0 3 1 v xs.length ((xs.mergeSort fun x y => decide (x ≤ y)).map (Value.int .i64)) ∧ Kp (fun i => v.ownBlock = some i) w w') := by
  have ho := hown
  rcases hown.2 with ⟨rfl, h0⟩ | ⟨g, cap, cur, rfl, _, hg, hnc, hcm, hcs, ht⟩
  · omega
  · have hlt : g < w.heap.size := (Array.getElem?_eq_some_iff.1 hg).1
    refine (Try.slices_Sort_int g 0 cap xs w ?_ hlt hl).mono ?_
    · intro j hj
      have hj' : j < xs.length := by simpa using hj
      refine ⟨?_, ?_⟩
      · have := ho.cells (g := g) rfl j (.int .i64 xs[j]) (by simp [hj'])
        rw [add_lit] at this
        rw [this]
        simp [hj']
      · simp [World.frozen?, hg]
    · rintro e w' ⟨rfl, n, os, rfl⟩
      have hlen : (xs.mergeSort fun x y => decide (x ≤ y)).length = xs.length := List.length_mergeSort _
      have hsz : (Go.Sort.putRow (Value.int .i64) (Go.Sort.ahead w n) g 0 (xs.mergeSort fun x y => decide (x ≤ y)).toArray).heap.size = w.heap.size := by
        simp [Go.Sort.putRow, Go.Sort.mapBlock, Go.Sort.ahead]
      have hat : ∀ i, i < w.heap.size → (Go.Sort.grow (Go.Sort.putRow (Value.int .i64) (Go.Sort.ahead w n) g 0 (xs.mergeSort fun x y => decide (x ≤ y)).toArray) os).heap[i]? = (Go.Sort.putRow (Value.int .i64) (Go.Sort.ahead w n) g 0 (xs.mergeSort fun x y => decide (x ≤ y)).toArray).heap[i]? := by
        intro i hi
        simp only [Go.Sort.grow]
        rw [Array.getElem?_append_left (by rw [hsz]; exact hi)]
      refine ⟨_, rfl, rfl, ⟨by simp [hlen], .inr ⟨g, cap, Go.Sort.putCells (Value.int .i64) 0 (xs.mergeSort fun x y => decide (x ≤ y)).toArray cur, rfl, Nat.zero_le _, ?_, hnc, hcm, ?_, ?_⟩⟩, ⟨rfl, rfl, rfl, ?_, ?_⟩⟩
      · rw [hat g hlt]
        simp [Go.Sort.putRow, Go.Sort.mapBlock, Go.Sort.ahead, Array.getElem?_modify, hg, Go.Sort.onCells]
      · simp [Go.Sort.putCells, hcs]
      · apply List.ext_getElem
        · simp [Go.Sort.putCells, hcs, hlen]; omega
        · intro i h1 h2
          simp [hlen] at h2
          simp [Go.Sort.putCells, hlen, h2]
      · simp only [Go.Sort.grow, Array.size_append, hsz]; omega
      · intro i hi hn
        rw [hat i hi]
        simp only [Value.ownBlock, Option.some.injEq] at hn
        simp [Go.Sort.putRow, Go.Sort.mapBlock, Go.Sort.ahead, Array.getElem?_modify, hn]
end Go.Proofs.Ytehjmakiljhjdaa
