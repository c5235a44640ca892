/- A part of the walk: what this seat's statements share. -/
import Derived.Test.YtehjmakiljhjdaaZG3
import Derived.Test.YtehjmakiljhjdaaZG2
import Derived.DeepKeys4
import Derived.Test.YtehjmakiljhjdaaZG1
set_option linter.unusedVariables false
set_option linter.unusedSimpArgs false
set_option linter.unusedSectionVars false
/- int(uint(x) >> 1) -/
namespace Go.Proofs.Ytehjmakiljhjdaa.VW
open Go Go.RowKit
section
variable {P : Program} [hT : Tab P] {n : Nat} {ds : List Deferred} {Φ : Post} {k : List It} {ρ : E} {w : World} {all : Array Oper} {l : List Oper} {md : Option (List Oper)}
theorem wrapU64 {s : Nat} (h : s < 9223372036854775808) : IntKind.u64.wrap (s : Int) = s := by
  have : (s : Int) % 18446744073709551616 = s := by omega
  simp [IntKind.wrap, IntKind.bits, IntKind.signed, this]
theorem wrapI64 {s : Nat} (h : s < 9223372036854775808) : IntKind.i64.wrap (s : Int) = s := by
  have : (s : Int) % 18446744073709551616 = s := by omega
  simp [IntKind.wrap, IntKind.bits, IntKind.signed, this]
  omega
theorem Ops.half {o1 o2 o3 : Oper} {d1 d2 d3 s1 t1 t2 t2' s3 t3 : Nat} {x y : Operand} {s : Nat} (h1 : o1.op = .convert s1 t1 x) (hd1 : o1.dst = some d1) (hg1 : o1.guard = none) (e1 : tyD P s1 = some (.int .i64)) (e2 : tyD P t1 = some (.int .u64)) (hx : ev ρ x = some (.int .i64 (s : Int)))
    (h2 : o2.op = .binOp .shr t2 (.tmp d1) y t2') (hd2 : o2.dst = some d2) (hg2 : gdB all ((d1, .int .u64 (IntKind.u64.wrap (s : Int))) :: ρ) o2.guard = some true) (hy : ev ((d1, .int .u64 (IntKind.u64.wrap (s : Int))) :: ρ) y = some (.int .u64 1))
    (h3 : o3.op = .convert s3 t3 (.tmp d2)) (hd3 : o3.dst = some d3) (hg3 : o3.guard = none) (e3 : tyD P s3 = some (.int .u64)) (e4 : tyD P t3 = some (.int .i64)) (hs : s < 9223372036854775808)
    (hk : Ops md P n ds all k Φ l ((d3, .int .i64 ((s / 2 : Nat) : Int)) :: (d2, .int .u64 ((s / 2 : Nat) : Int)) :: (d1, .int .u64 (s : Int)) :: ρ) w) : Ops md P n ds all k Φ (o1 :: o2 :: o3 :: l) ρ w := by
  have w1 := wrapU64 hs
  rw [w1] at hg2 hy
  refine Ops.cv h1 hd1 hg1 e1 e2 hx ?_
  rw [w1]
  have w2 : Int.fdiv (s : Int) 2 = ((s / 2 : Nat) : Int) := by rw [Int.fdiv_eq_ediv_of_nonneg _ (by omega)]; rfl
  refine Ops.evG hd2 hg2 rfl (EV.bsh (v := ((s / 2 : Nat) : Int)) h2 (ev_top _ _ _) hy ?_) ?_
  · simp [bsh, IntKind.bits, w2]
  refine Ops.cv h3 hd3 hg3 e3 e4 (ev_top _ _ _) ?_
  rw [wrapI64 (by omega)]
  exact hk
end
end Go.Proofs.Ytehjmakiljhjdaa.VW
/- x == nil for slices; an empty literal; a field of an element written in a drawn region. -/
namespace Go.Proofs.Ytehjmakiljhjdaa.VW
open Go Go.RowKit
section
variable {P : Program} [hT : Tab P] {n : Nat} {ds : List Deferred} {Φ : Post} {k : List It} {ρ : E} {w : World} {all : Array Oper} {l : List Oper} {md : Option (List Oper)} {s : Nat} {F : World → Prop} {π : List (Nat × Nat)} {L : List Bool}
theorem EV.nilE {o : Oper} {t t' e m c : Nat} {x y : Operand} {A : Option Addr} (ho : o.op = .binOp .eql t x y t') (ht : tyD P t = some (.slice e)) (hx : ev ρ x = some (.slice A m c)) (hy : ev ρ y = some (.slice none 0 0)) : EV P n ρ w o (.bool A.isNone) := by
  intro a hr
  have hu := td_slice (tyD_ok ht)
  simp only [execOp, ho, hr.ev hx, hr.ev hy]
  have : (Op.equal t (.slice A m c) (.slice none 0 0)).run P w = .ok A.isNone w := by
    unfold Op.equal
    rw [show Op.maxDepth = 9999 + 1 from rfl]
    unfold Op.equalIn
    cases A <;> simp [run_und hu]
  simp [eqGuard, binOp, this]
/-- An empty literal. -/
theorem Ops.bs0 {o : Oper} {d t e sz : Nat} (ho : o.op = .buildSlice t 0 #[]) (hd : o.dst = some d) (hg : o.guard = none) (ht : tyD P t = some (.slice e)) (hs : tyS P e = some sz)
    (hk : ∀ w' r, Mk w w' r (.cells #[] e) → Ops none P n ds all k Φ l ((d, .slice (some ⟨r, 0, none⟩) 0 0) :: ρ) w') : Ops none P n ds all k Φ (o :: l) ρ w := by
  refine Ops.val hd hg (fun a hr => ?_) (hk _ _ (mk_alloc w _))
  have h0 : (Array.range 0 : Array Nat) = #[] := rfl
  simp [execOp, ho, Instr.buildSlice, run_und (td_slice (tyD_ok ht)), run_sizeOf hs, Instr.fill, newRow, newObj, Sem.run, h0]
theorem own_zero {w w' : World} {r e sz : Nat} (h : Mk w w' r (.cells #[] e)) : w'.ownsRow 0 e sz (.slice (some ⟨r, 0, none⟩) 0 0) 0 [] :=
  ⟨by simp, .inr ⟨r, 0, #[], rfl, Nat.zero_le _, h.at_, Nat.le_refl _, by simp [maxLen], by simp, by simp⟩⟩
/-- A struct of two fields of which the second one alone is given. -/
theorem EV.bldS {o : Oper} {t : Nat} {y : Operand} {v z0 z1 : Value} (ho : o.op = .build t #[(1, y)])
    (ht : tyD P t = some (.struct [(0, 1), (1, 1)])) (hz : tyZ P t = some (.agg #[z0, z1])) (hy : ev ρ y = some v) (h2 : v.oneCell' = true) : EV P n ρ w o (.agg #[z0, v]) := by
  intro a hr
  obtain ⟨gs, hu, hm⟩ := td_struct (tyD_ok ht)
  have hsz : ∃ f g, gs = #[f, g] ∧ f.offset = 0 ∧ g.offset = 1 ∧ ((P.info? f.type).map (·.size)).getD 0 = 1 ∧ ((P.info? g.type).map (·.size)).getD 0 = 1 := by
    obtain ⟨L⟩ := gs
    rcases L with _ | ⟨f, _ | ⟨g, _ | ⟨h, r⟩⟩⟩
    · simp at hm
    · simp at hm
    · simp at hm; exact ⟨f, g, rfl, hm.1.1, hm.2.1, hm.1.2, hm.2.2⟩
    · simp at hm
  obtain ⟨f, g, rfl, hf0, hg1, hfs, hgs⟩ := hsz
  have q1 : ∃ i, P.info? f.type = some i ∧ i.size = 1 := by
    cases hi : P.info? f.type with
    | none => rw [hi] at hfs; simp at hfs
    | some i => rw [hi] at hfs; exact ⟨i, rfl, by simpa using hfs⟩
  have q2 : ∃ i, P.info? g.type = some i ∧ i.size = 1 := by
    cases hi : P.info? g.type with
    | none => rw [hi] at hgs; simp at hgs
    | some i => rw [hi] at hgs; exact ⟨i, rfl, by simpa using hgs⟩
  obtain ⟨i1, e1, s1⟩ := q1
  obtain ⟨i2, e2, s2⟩ := q2
  have hcv : v.cells = #[v] := by cases v <;> simp_all [Value.oneCell', Value.cells]
  have hcz : (Value.agg #[z0, z1]).cells = #[z0, z1] := rfl
  simp only [execOp, ho]
  simp [Instr.build, hr.ev hy, run_zeroV hz, run_und hu, sizeOf, typeInfo, e1, e2, s1, s2, hf0, hg1, Instr.fill, hcv, hcz]
/-- A field of an element of a slice of the call's own, written at the end of a drawn region. -/
theorem Ord.wrF {i1 i2 i3 d1 d2 t s' t' f e sz off szf m : Nat} {o1 o2 o3 : Oper} {x y z : Operand} {v u : Value} {i : Int} {cs : List Value}
    (e1 : all[i1]? = some o1) (h1 : o1.op = .indexAddr t x y) (hd1 : o1.dst = some d1) (hg1 : gdB all ρ o1.guard = some true) (e2 : all[i2]? = some o2) (h2 : o2.op = .fieldAddr s' (.tmp d1) f) (hd2 : o2.dst = some d2) (hg2 : ∀ p, gdB all ((d1, .pointer p) :: ρ) o2.guard = some true)
    (e3 : all[i3]? = some o3) (h3 : o3.op = .store t' (.tmp d2) z) (hd3 : o3.dst = none) (hg3 : o3.guard = none)
    (ht : tyD P t = some (.slice e)) (hs : tyS P e = some sz) (hf : fieldOff P s' f = some (off, szf + 1)) (hlt : Nat.blt off sz = true) (hs' : tyS P t' = some 1) (hx : ev ρ x = some v) (hy : ev ρ y = some (.int .i64 i)) (hz : ∀ p q, ev ((d2, q) :: (d1, p) :: ρ) z = some u) (hu1 : u.oneCell' = true)
    (hown : w.ownsRow 0 e sz v m cs) (h0 : 0 ≤ i) (hi : i < m) (hΦ : ∀ c ρ w, ¬ Φ (.panic c) ρ w)
    (hk : ∀ w' p q, w'.ownsRow 0 e sz v m (cs.set (i.toNat * sz + off) u) → Kp (fun b => v.ownBlock = some b) w w' → w'.heap.size = w.heap.size → VW.Ord P n ds all k Φ 9999 (fun _ => True) π (((L.set i1 true).set i2 true).set i3 true) ((d2, q) :: (d1, p) :: ρ) w') : VW.Ord P n ds all k Φ 9999 (fun _ => True) ((i1, 1) :: (i2, 1) :: (i3, 0) :: π) L ρ w := by
  have hlt' : off < sz := by simpa using hlt
  obtain ⟨g, cap, cur, rfl, hb, hcs⟩ := own_blk hown (by omega)
  refine VW.Ord.pure e1 hd1 hg1 rfl hΦ (fun w => EV.idx h1 ht hs hx hy h0 hi) (VW.Ord.pure e2 hd2 (hg2 _) rfl hΦ (fun w => EV.fld h2 hf (ev_top _ _ _)) (VW.Ord.effT e3 ?_))
  rw [add_lit, add_lit, Nat.zero_add]
  have hbd := mul_lt (i := i.toNat) (m := m) (sz := sz) (off := off) (by omega) hlt'
  refine Ops.st h3 hd3 hg3 hs' (ev_top _ _ _) (hz _ _) hu1 hb (by omega) (fun w' hu => Ops.nil (W.endl (hk w' _ _ (own_set hown hb hu) ?_ hu.size)))
  exact hu.kp.mono (fun i _ e => by simp [Value.ownBlock, e])
end
end Go.Proofs.Ytehjmakiljhjdaa.VW
/- Maps from keys of the kit's kinds to ints. -/
namespace Go.Proofs.Ytehjmakiljhjdaa.VW
open Go Go.RowKit
def isKey (P : Program) (kt : Nat) (v : Value) : Prop := ∃ l, keyOf P kt v = some l
/-- Block b is a map in which f stands; keys are written by enc. -/
def MapK {κ : Type} (P : Program) (kt : Nat) (enc : κ → Value) (w : World) (b : Nat) (f : κ → Option Int) : Prop := ∃ (es : Array MapEntry) (c : Nat), w.heap[b]? = some (.map es c) ∧ (∀ e ∈ es.toList, isKey P kt e.key) ∧ (∀ e ∈ es.toList, ∃ p v, e.key = enc p ∧ e.val = .int .i64 v ∧ f p = some v) ∧ ∀ p v, f p = some v → ∃ e ∈ es.toList, e.key = enc p
theorem MapK.kp {κ : Type} {P : Program} {kt : Nat} {enc : κ → Value} {w w' : World} {b : Nat} {f : κ → Option Int} {S : Nat → Prop} (h : MapK P kt enc w b f) (k : Kp S w w') (hs : ¬ S b) : MapK P kt enc w' b f := by
  obtain ⟨es, c, hb, h1⟩ := h
  exact ⟨es, c, by rw [k.blk b (Array.getElem?_eq_some_iff.1 hb).1 hs]; exact hb, h1⟩
theorem MapK.lt {κ : Type} {P : Program} {kt : Nat} {enc : κ → Value} {w : World} {b : Nat} {f : κ → Option Int} (h : MapK P kt enc w b f) : b < w.heap.size := by
  obtain ⟨es, c, hb, _⟩ := h
  exact (Array.getElem?_eq_some_iff.1 hb).1
theorem MapK.below {κ : Type} {P : Program} {kt : Nat} {enc : κ → Value} {w w' : World} {b : Nat} {f : κ → Option Int} (h : MapK P kt enc w b f) (k : Below w.heap.size w w') : MapK P kt enc w' b f := h.kp (Kp.of_below (S := fun _ => False) k) (fun e => e)
section
variable {P : Program} [hT : Tab P] {n : Nat} {ds : List Deferred} {Φ : Post} {k : List It} {ρ : E} {w : World} {all : Array Oper} {l : List Oper} {md : Option (List Oper)}
theorem Ops.mkK {κ : Type} {enc : κ → Value} {kt : Nat} {o : Oper} {d t : Nat} (ho : o.op = .makeMap t none) (hd : o.dst = some d) (hg : o.guard = none)
    (hk : ∀ w' r, MapK P kt enc w' r (fun _ => none) → Kp (fun _ => False) w w' → r = w.heap.size → w'.heap.size = w.heap.size + 1 → Ops none P n ds all k Φ l ((d, .map (some r)) :: ρ) w') : Ops none P n ds all k Φ (o :: l) ρ w := by
  have hm := mk_alloc w (.map #[] 0)
  refine Ops.val hd hg (fun a hr => ?_) (hk _ _ ⟨#[], 0, hm.at_, by simp, by simp, by simp⟩ hm.kp rfl hm.size)
  have hm' : (Instr.makeMap t none).run P w = .ok (.map (some w.heap.size)) (w.alloc (.map #[] 0)) := rfl
  simp [execOp, ho, hm']
theorem run_lookK {κ : Type} {enc : κ → Value} {t kt et r : Nat} {p : κ} {f : κ → Option Int} (cok : Bool) (K : WideMaps.KeyLaw P kt) (hinj : ∀ a b, enc a = enc b → a = b) (hp : isKey P kt (enc p)) (ht : tyD P t = some (.map kt et)) (hz : tyZ P et = some (.int .i64 0)) (hm : MapK P kt enc w r f) :
    (Instr.lookup t (.map (some r)) (enc p) cok).run P w = .ok (if cok then .tuple #[.int .i64 ((f p).getD 0), .bool (f p).isSome] else .int .i64 ((f p).getD 0)) w := by
  obtain ⟨es, c, hb, h1, h2, h3⟩ := hm
  obtain ⟨lx, hlx⟩ := hp
  have hu := td_map (tyD_ok ht)
  have hck := fun em => K.check w em hlx
  rcases K.find w hlx es.toList h1 with ⟨hf, hne⟩ | ⟨j, e, hf, hj, he⟩
  · have hfp : f p = none := by
      cases hfp : f p with
      | none => rfl
      | some v => obtain ⟨e, he, hke⟩ := h3 p v hfp; exact absurd hke (hne e he)
    cases cok <;> simp [Instr.lookup, run_und hu, run_getObj_m hb, hck, hf, run_zeroV hz, hfp]
  · obtain ⟨q, v, e1, e2, e3⟩ := h2 e (List.mem_of_getElem? hj)
    have : q = p := hinj _ _ (by rw [← e1, he])
    subst this
    cases cok <;> simp [Instr.lookup, run_und hu, run_getObj_m hb, hck, hf, e2, e3]
/-- m[x] -/
theorem Ops.lookK {κ : Type} {enc : κ → Value} {o : Oper} {d t kt et r : Nat} {x y : Operand} {p : κ} {f : κ → Option Int} (K : WideMaps.KeyLaw P kt) (hinj : ∀ a b, enc a = enc b → a = b) (ho : o.op = .lookup t x y false) (hd : o.dst = some d) (hg : o.guard = none)
    (ht : tyD P t = some (.map kt et)) (hz : tyZ P et = some (.int .i64 0)) (hx : ev ρ x = some (.map (some r))) (hy : ev ρ y = some (enc p)) (hp : isKey P kt (enc p)) (hm : MapK P kt enc w r f)
    (hk : Ops md P n ds all k Φ l ((d, .int .i64 ((f p).getD 0)) :: ρ) w) : Ops md P n ds all k Φ (o :: l) ρ w := by
  refine Ops.valS hd hg (fun a hr => ?_) hk
  simp [execOp, ho, hr.ev hx, hr.ev hy, run_lookK false K hinj hp ht hz hm]
/-- v, ok := m[x] -/
theorem Ops.lookKk {κ : Type} {enc : κ → Value} {o : Oper} {d t kt et r : Nat} {x y : Operand} {p : κ} {f : κ → Option Int} (K : WideMaps.KeyLaw P kt) (hinj : ∀ a b, enc a = enc b → a = b) (ho : o.op = .lookup t x y true) (hd : o.dst = some d) (hg : o.guard = none)
    (ht : tyD P t = some (.map kt et)) (hz : tyZ P et = some (.int .i64 0)) (hx : ev ρ x = some (.map (some r))) (hy : ev ρ y = some (enc p)) (hp : isKey P kt (enc p)) (hm : MapK P kt enc w r f)
    (hk : Ops md P n ds all k Φ l ((d, .tuple #[.int .i64 ((f p).getD 0), .bool (f p).isSome]) :: ρ) w) : Ops md P n ds all k Φ (o :: l) ρ w := by
  refine Ops.valS hd hg (fun a hr => ?_) hk
  simp [execOp, ho, hr.ev hx, hr.ev hy, run_lookK true K hinj hp ht hz hm]
theorem run_putK {κ : Type} [DecidableEq κ] {enc : κ → Value} {t kt et r : Nat} {p : κ} {v : Int} {f : κ → Option Int} (K : WideMaps.KeyLaw P kt) (hinj : ∀ a b, enc a = enc b → a = b) (hp : isKey P kt (enc p)) (hf0 : f p = none) (ht : tyD P t = some (.map kt et)) (hm : MapK P kt enc w r f) :
    ∃ w', (Instr.mapUpdate t (.map (some r)) (enc p) (.int .i64 v)).run P w = .ok () w' ∧ MapK P kt enc w' r (fun q => if q = p then some v else f q) ∧ Kp (fun i => i = r) w w' ∧ w'.heap.size = w.heap.size := by
  obtain ⟨es, c, hb, h1, h2, h3⟩ := hm
  obtain ⟨lx, hlx⟩ := hp
  have hu := td_map (tyD_ok ht)
  have hck := fun em => K.check w em hlx
  have hlt := (Array.getElem?_eq_some_iff.1 hb).1
  rcases K.find w hlx es.toList h1 with ⟨hf, hne⟩ | ⟨j, e, hf, hj, he⟩
  · refine ⟨_, ?_, ?_, kp_setObj r (.map (es.push { key := enc p, val := .int .i64 v, born := c }) (c + 1)), by simp⟩
    · simp [Instr.mapUpdate, run_und hu, run_getObj_m hb, hck, hf, run_setObj_m _ hb]
    · refine ⟨es.push { key := enc p, val := .int .i64 v, born := c }, c + 1, by simp [hlt], fun e he => ?_, fun e he => ?_, fun q u hq => ?_⟩
      · simp only [Array.toList_push, List.mem_append, List.mem_singleton] at he
        rcases he with he | rfl
        · exact h1 e he
        · exact ⟨lx, hlx⟩
      · simp only [Array.toList_push, List.mem_append, List.mem_singleton] at he
        rcases he with he | rfl
        · obtain ⟨q, u, e1, e2, e3⟩ := h2 e he
          refine ⟨q, u, e1, e2, ?_⟩
          show (if q = p then some v else f q) = some u
          rw [if_neg (fun h : q = p => hne e he (by rw [e1, h]))]
          exact e3
        · exact ⟨p, v, rfl, rfl, if_pos rfl⟩
      · replace hq : (if q = p then some v else f q) = some u := hq
        by_cases e : q = p
        · exact ⟨{ key := enc p, val := .int .i64 v, born := c }, by simp, by rw [e]⟩
        · rw [if_neg e] at hq
          obtain ⟨e', he', hk'⟩ := h3 q u hq
          exact ⟨e', by simp only [Array.toList_push, List.mem_append]; exact .inl he', hk'⟩
  · obtain ⟨q, u, e1, e2, e3⟩ := h2 e (List.mem_of_getElem? hj)
    have : q = p := hinj _ _ (by rw [← e1, he])
    rw [this, hf0] at e3
    cases e3
theorem Ops.putK {κ : Type} [DecidableEq κ] {enc : κ → Value} {o : Oper} {t kt et r : Nat} {x y z : Operand} {p : κ} {v : Int} {f : κ → Option Int} (K : WideMaps.KeyLaw P kt) (hinj : ∀ a b, enc a = enc b → a = b) (ho : o.op = .mapUpdate t x y z) (hd : o.dst = none) (hg : o.guard = none)
    (ht : tyD P t = some (.map kt et)) (hx : ev ρ x = some (.map (some r))) (hy : ev ρ y = some (enc p)) (hz : ev ρ z = some (.int .i64 v)) (hp : isKey P kt (enc p)) (hf0 : f p = none) (hm : MapK P kt enc w r f)
    (hk : ∀ w', MapK P kt enc w' r (fun q => if q = p then some v else f q) → Kp (fun i => i = r) w w' → w'.heap.size = w.heap.size → Ops none P n ds all k Φ l ρ w') : Ops none P n ds all k Φ (o :: l) ρ w := by
  obtain ⟨w', hrun, h1, h2, h3⟩ := run_putK (v := v) K hinj hp hf0 ht hm
  refine Ops.unit hg hd (fun a hr => ?_) (hk w' h1 h2 h3)
  simp [execOp, ho, hr.ev hx, hr.ev hy, hr.ev hz, hrun]
end
end Go.Proofs.Ytehjmakiljhjdaa.VW
/- Lists of lists of ints that are read. -/
namespace Go.Proofs.Ytehjmakiljhjdaa.VW
open Go Go.RowKit
abbrev row (c : List (List Int)) (i : Int) : List Int := c.getD i.toNat []
/-- v reads as a list of lists. -/
def RowsM (w : World) (v : Value) (c : List (List Int)) : Prop := c.length ≤ 9223372036854775807 ∧ ∃ A k svs, v = .slice A c.length k ∧ (0 < c.length → ∃ a, A = some a ∧ ∀ j, j < c.length → w.cell? (a.add j) = some (List.getD svs j undef)) ∧ ∀ j, j < c.length → SlI w (List.getD svs j undef) (c.getD j [])
theorem RowsM.below {w w' : World} {v : Value} {c : List (List Int)} (h : RowsM w v c) (k : Below w.heap.size w w') : RowsM w' v c := by
  obtain ⟨hl, A, kk, svs, rfl, h1, h2⟩ := h
  have kp := Kp.of_below (S := fun _ => False) k
  refine ⟨hl, A, kk, svs, rfl, fun hp => ?_, fun j hj => (h2 j hj).below k⟩
  obtain ⟨a, rfl, hc⟩ := h1 hp
  exact ⟨a, rfl, fun j hj => cell_kp kp (hc j hj) (fun e => e)⟩
theorem RowsM.sl {w : World} {v : Value} {c : List (List Int)} (h : RowsM w v c) : ∃ A k, v = .slice A c.length k := by obtain ⟨_, A, k, _, rfl, _⟩ := h; exact ⟨A, k, rfl⟩
theorem Sl.shape {α : Type} {enc : α → Value} {z : α} {w : World} {v : Value} {xs : List α} (h : Sl enc z w v xs) : ∃ A c, v = .slice A xs.length c := by obtain ⟨_, A, c, rfl, _⟩ := h; exact ⟨A, c, rfl⟩
theorem RowsM.at_ {w0 : World} {v : Value} {c : List (List Int)} (h : RowsM w0 v c) {i : Int} (h0 : 0 ≤ i) (hi : i < c.length) : ∃ a k A' k', v = .slice (some a) c.length k ∧ SlI w0 (.slice A' (row c i).length k') (row c i) ∧
    ∀ w, Below w0.heap.size w0 w → w.cell? (a.add (i.toNat * 1)) = some (.slice A' (row c i).length k') := by
  obtain ⟨_, A, k, svs, rfl, h, hc⟩ := h
  obtain ⟨a, rfl, hcell⟩ := h (by omega)
  have h4 := hcell i.toNat (by omega)
  have h5 := hc i.toNat (by omega)
  obtain ⟨A', k', e⟩ := Sl.shape h5
  rw [e] at h4 h5
  refine ⟨a, k, A', k', rfl, h5, fun w hb => ?_⟩
  rw [Nat.mul_one]
  exact cell_kp (Kp.of_below (S := fun _ => False) hb) h4 (fun e => e)
section
variable {P : Program} [hT : Tab P] {n : Nat} {ds : List Deferred} {Φ : Post} {k : List It} {ρ : E} {w : World} {all : Array Oper} {l : List Oper} {md : Option (List Oper)} {s : Nat} {F : World → Prop} {π : List (Nat × Nat)} {L : List Bool}
theorem z_r {o1 o2 : Oper} {d1 d2 t s t' : Nat} {x y : Operand} {v : Value} {i : Int} {c : List (List Int)} {w0 : World} {c1 c2 : Bool} (h1 : o1.op = .indexAddr t x y := by exact rfl) (hd1 : o1.dst = some d1 := by exact rfl) (hg1 : gdB all ρ o1.guard = some c1 := by exact rfl) (hc1 : c1 = true := by exact rfl) (h2 : o2.op = .load t' (.tmp d1) := by exact rfl) (hd2 : o2.dst = some d2 := by exact rfl) (hg2 : ∀ p, gdB all ((d1, .pointer p) :: ρ) o2.guard = some c2 := by exact fun _ => rfl) (hc2 : c2 = true := by exact rfl)
    (ht : tyD P t = some (.slice s) := by exact rfl) (hs : tyS P s = some 1 := by exact rfl) (ha : tyAgg P t' = some false := by exact rfl) (hx : ev ρ x = some v := by exact rfl) (hy : ev ρ y = some (.int .i64 i) := by exact rfl) (htr : RowsM w0 v c := by assumption) (hbel : Below w0.heap.size w0 w := by first | assumption | exact Below.refl _ _) (h0 : 0 ≤ i := by omega) (hi : i < c.length := by omega)
    (kk : ∀ A m p, SlI w0 (.slice A (row c i).length m) (row c i) → Ops md P n ds all k Φ l ((d2, .slice A (row c i).length m) :: (d1, p) :: ρ) w) : Ops md P n ds all k Φ (o1 :: o2 :: l) ρ w := by
  obtain ⟨a, m, A', m', rfl, hsl, hcell⟩ := htr.at_ h0 hi
  exact Ops.evG hd1 hg1 hc1 (EV.idx h1 ht hs hx hy h0 hi) (Ops.evG hd2 (hg2 _) hc2 (EV.ld h2 ha (ev_top _ _ _) (hcell w hbel)) (kk _ _ _ hsl))
theorem x_r {i1 i2 d1 d2 t s' t' : Nat} {o1 o2 : Oper} {x y : Operand} {v : Value} {i : Int} {c : List (List Int)} {w0 : World} {c1 c2 : Bool} (e1 : all[i1]? = some o1 := by exact rfl) (h1 : o1.op = .indexAddr t x y := by exact rfl) (hd1 : o1.dst = some d1 := by exact rfl) (hg1 : gdB all ρ o1.guard = some c1 := by exact rfl) (hc1 : c1 = true := by exact rfl) (e2 : all[i2]? = some o2 := by exact rfl) (h2 : o2.op = .load t' (.tmp d1) := by exact rfl) (hd2 : o2.dst = some d2 := by exact rfl) (hg2 : ∀ p, gdB all ((d1, .pointer p) :: ρ) o2.guard = some c2 := by exact fun _ => rfl) (hc2 : c2 = true := by exact rfl)
    (ht : tyD P t = some (.slice s') := by exact rfl) (hs : tyS P s' = some 1 := by exact rfl) (ha : tyAgg P t' = some false := by exact rfl) (hx : ev ρ x = some v := by exact rfl) (hy : ev ρ y = some (.int .i64 i) := by exact rfl) (htr : RowsM w0 v c := by assumption) (hF : ∀ w, F w → Below w0.heap.size w0 w := by first | exact fun _ h => h | (intro _ h; exact Below.via (by assumption) h)) (h0 : 0 ≤ i := by omega) (hi : i < c.length := by omega)
    (kk : ∀ A m p, SlI w0 (.slice A (row c i).length m) (row c i) → OrdA P n ds all k Φ s F π ((L.set i1 true).set i2 true) ((d2, .slice A (row c i).length m) :: (d1, p) :: ρ)) : OrdA P n ds all k Φ s F ((i1, 1) :: (i2, 2) :: π) L ρ := by
  obtain ⟨a, m, A', m', rfl, hsl, hcell⟩ := htr.at_ h0 hi
  exact OrdA.pure e1 hd1 hg1 hc1 (fun w => EV.idx h1 ht hs hx hy h0 hi) (OrdA.read e2 hd2 (hg2 _) hc2 (fun w hw => EV.ld h2 ha (ev_top _ _ _) (hcell w (hF w hw))) (kk _ _ _ hsl))
theorem y_r {i1 i2 d1 d2 t s' t' : Nat} {o1 o2 : Oper} {x y : Operand} {v : Value} {i : Int} {c : List (List Int)} {w0 : World} {c1 c2 : Bool} (e1 : all[i1]? = some o1 := by exact rfl) (h1 : o1.op = .indexAddr t x y := by exact rfl) (hd1 : o1.dst = some d1 := by exact rfl) (hg1 : gdB all ρ o1.guard = some c1 := by exact rfl) (hc1 : c1 = true := by exact rfl) (e2 : all[i2]? = some o2 := by exact rfl) (h2 : o2.op = .load t' (.tmp d1) := by exact rfl) (hd2 : o2.dst = some d2 := by exact rfl) (hg2 : ∀ p, gdB all ((d1, .pointer p) :: ρ) o2.guard = some c2 := by exact fun _ => rfl) (hc2 : c2 = true := by exact rfl)
    (ht : tyD P t = some (.slice s') := by exact rfl) (hs : tyS P s' = some 1 := by exact rfl) (ha : tyAgg P t' = some false := by exact rfl) (hx : ev ρ x = some v := by exact rfl) (hy : ev ρ y = some (.int .i64 i) := by exact rfl) (htr : RowsM w0 v c := by assumption) (hF : ∀ w, F w → Below w0.heap.size w0 w := by first | exact fun _ h => h | (intro _ h; exact Below.via (by assumption) h)) (h0 : 0 ≤ i := by omega) (hi : i < c.length := by omega) (hΦ : ∀ c ρ w, ¬ Φ (.panic c) ρ w := by exact fun _ _ _ h => h)
    (kk : ∀ A m p, SlI w0 (.slice A (row c i).length m) (row c i) → VW.Ord P n ds all k Φ s F π ((L.set i1 true).set i2 true) ((d2, .slice A (row c i).length m) :: (d1, p) :: ρ) w) : VW.Ord P n ds all k Φ s F ((i1, 1) :: (i2, 2) :: π) L ρ w := by
  obtain ⟨a, m, A', m', rfl, hsl, hcell⟩ := htr.at_ h0 hi
  exact VW.Ord.pure e1 hd1 hg1 hc1 hΦ (fun w => EV.idx h1 ht hs hx hy h0 hi) (VW.Ord.read' e2 hd2 (hg2 _) hc2 hΦ (fun w hw => EV.ld h2 ha (ev_top _ _ _) (hcell w (hF w hw))) (kk _ _ _ hsl))
end
end Go.Proofs.Ytehjmakiljhjdaa.VW
namespace Go.Proofs.Ytehjmakiljhjdaa
open Go Go.RowKit Go.Proofs.Ytehjmakiljhjdaa.VW
attribute [local irreducible] W Ops OrdA VW.Ord OrdX
theorem callV_f {ρ : E} {c : Call} {g : Operand} {fc : Nat} {first cap vs : List Value} {vf : Value} (hvf : vf = .func (.func fc) first.toArray cap.toArray) (hc : c.callee = .value g) (hg : ev ρ g = some vf) (ha : evs ρ c.args.toList = some vs) : callV ρ c = some (fc, app3 first vs cap) := by
  subst hvf
  simp [callV, hc, hg, ha]
def inR (n lo hi : Int) : Bool := decide (lo ≤ n) && decide (n ≤ hi)
theorem within_c (n lo hi : Int) (w : World) : Calls Try.prog 68 #[.int .i64 n, .int .i64 lo, .int .i64 hi] w (Ret fun v w' => v = .bool (inR n lo hi) ∧ w' = w) := by
  refine calls_W (vs := [_, _, _]) Try.func68 rfl (by kernel_rfl) rfl ?_
  by_cases h : lo ≤ n
  · (repeat (first | with_reducible refine W.seq ?_ | with_reducible refine Ops.nil ?_ | with_reducible refine W.region ?_ | refine z_p (kk := ?_) | refine z_y (kk := ?_) | refine z_h (kk := ?_)))
    exact W.fret rfl ⟨by show Value.bool _ = _; simp [inR, h], rfl⟩
  · (repeat (first | with_reducible refine W.seq ?_ | with_reducible refine Ops.nil ?_ | with_reducible refine W.region ?_ | refine z_p (kk := ?_) | refine z_n (kk := ?_) | refine z_g (kk := ?_)))
    exact W.fret rfl ⟨by show Value.bool _ = _; simp [inR, h], rfl⟩
theorem ints_c {w : World} {v1 v2 : Value} {xs ys : List Int} (h1 : SlI w v1 xs) (h2 : SlI w v2 ys) :
    Calls Try.prog 23 #[v1, v2] w (Ret fun r w' => r = .bool (decide (xs = ys)) ∧ Below w.heap.size w w') := by
  have hl1 := Sl.len h1
  have hl2 := Sl.len h2
  obtain ⟨A, c, rfl⟩ := Sl.shape h1
  obtain ⟨B, d, rfl⟩ := Sl.shape h2
  refine calls_W (vs := [_, _]) Try.func23 rfl (by kernel_rfl) rfl ?_
  by_cases hl : xs.length = ys.length
  · (repeat (first | with_reducible refine W.seq ?_ | with_reducible refine Ops.nil ?_ | with_reducible refine W.region ?_ | refine z_p (kk := ?_) | refine z_l (kk := ?_)))
    refine W.condF rfl (by first | rfl | assumption | (simp only [bnf] <;> omega) | (simp only [*, bnf]; done) | fail) ?_
    (repeat (first | with_reducible refine W.seq ?_ | with_reducible refine Ops.nil ?_ | with_reducible refine W.region ?_ | refine z_p (kk := ?_) | with_reducible refine W.skip ?_ | with_reducible refine W.block ?_))
    refine W.loop (fun m ρ w1 => ∃ (i : Nat), m = xs.length - i ∧ i ≤ xs.length ∧ ρ = [(0, .slice A xs.length c), (1, .slice B ys.length d), (5, .int .i64 i)] ∧ Below w.heap.size w w1 ∧ ∀ j : Nat, j < i → xs.getD j 0 = ys.getD j 0)
      ⟨_, _, ⟨0, rfl, Nat.zero_le _, rfl, Below.refl _ _, fun j hj => by omega⟩, (by repeat (first | exact trivial | refine And.intro rfl ?_))⟩ ?_
    rintro m ρ w1 ⟨i, rfl, hi, rfl, hb1, heq⟩
    (repeat (first | with_reducible refine W.seq ?_ | with_reducible refine Ops.nil ?_ | with_reducible refine W.region ?_ | refine z_p (kk := ?_) | refine z_l (kk := ?_)))
    (first | refine W.condD rfl (fun hc => ?_) (fun hc => ?_) | refine W.condE rfl (fun hc => ?_) (fun hc => ?_) | refine W.condN rfl (fun hc => ?_) (fun hc => ?_) | refine W.cond rfl (fun hc => ?_) (fun hc => ?_))
    · have hil : i < xs.length := by omega
      (repeat (first | with_reducible refine W.seq ?_ | with_reducible refine W.skip ?_ | with_reducible refine W.block ?_))
      refine W.ordA 99 [(0, 1), (1, 1), (2, 1), (3, 2), (4, 1), (5, 1), (6, 1), (7, 2), (8, 1)] rfl (by kernel_rfl) rfl (by kernel_rfl) (fun _ _ _ h => h) ?_
      (repeat (first | refine x_p (kk := ?_) | refine x_I (kk := fun _ => ?_)))
      refine OrdA.nil (fun w2 hb2 => ?_)
      have hb02 := Below.via hb1 hb2
      by_cases e : xs.getD i 0 = ys.getD i 0
      · skip
        refine W.condF rfl (by first | rfl | assumption | (simp only [bnf] <;> omega) | (simp only [*, bnf]; done) | fail) ?_
        (repeat (first | with_reducible refine Ops.nil ?_ | with_reducible refine W.region ?_ | refine z_p (kk := ?_) | refine z_a (kk := ?_) | with_reducible refine W.skip ?_ | with_reducible refine W.endb ?_))
        exact W.endl ⟨_, _, ⟨⟨i + 1, rfl, by omega, rfl, hb02, fun j hj => by
          by_cases e2 : j = i
          · rw [e2]; exact e
          · exact heq j (by omega)⟩, by omega⟩, (by repeat (first | exact trivial | refine And.intro rfl ?_))⟩
      · skip
        refine W.condT rfl (by first | rfl | assumption | (simp only [bnf] <;> omega) | (simp only [*, bnf]; done) | fail) ?_
        (repeat (first | with_reducible refine W.seq ?_ | with_reducible refine Ops.nil ?_ | with_reducible refine W.region ?_ | refine z_p (kk := ?_)))
        exact W.fret rfl ⟨by rw [decide_eq_false (fun h => e (by rw [h]))]; rfl, hb02⟩
    · have hil : i = xs.length := by omega
      (repeat (first | with_reducible refine W.seq ?_ | with_reducible refine Ops.nil ?_ | with_reducible refine W.region ?_ | refine z_p (kk := ?_) | refine W.exit rfl ?_))
      refine W.fret rfl ⟨?_, hb1⟩
      have : xs = ys := List.ext_getElem hl fun j h1 h2 => by
        have := heq j (by omega)
        simpa [List.getD_eq_getElem?_getD, h1, h2] using this
      rw [decide_eq_true this]; rfl
  · have hl' : (xs.length : Int) ≠ ys.length := by omega
    (repeat (first | with_reducible refine W.seq ?_ | with_reducible refine Ops.nil ?_ | with_reducible refine W.region ?_ | refine z_p (kk := ?_) | refine z_l (kk := ?_)))
    refine W.condT rfl (by first | rfl | assumption | (simp only [bnf] <;> omega) | (simp only [*, bnf]; done) | fail) ?_
    (repeat (first | with_reducible refine W.seq ?_ | with_reducible refine Ops.nil ?_ | with_reducible refine W.region ?_ | refine z_p (kk := ?_)))
    exact W.fret rfl ⟨by rw [decide_eq_false (fun h => hl (by rw [h]))]; rfl, Below.refl _ _⟩
/-- What a predicate on numbers asks. -/
def PredI (wB : World) (fc : Nat) (first cap : List Value) (p : Int → Bool) : Prop := ∀ x w', Below wB.heap.size wB w' → Calls Try.prog fc (app3 first [.int .i64 x] cap).toArray w' (Ret fun v w'' => v = .bool (p x) ∧ Below w'.heap.size w' w'')
theorem any_take {p : Int → Bool} {xs : List Int} {i : Nat} (h : i < xs.length) : (xs.take (i + 1)).any p = ((xs.take i).any p || p (xs.getD i 0)) := by
  rw [List.take_add_one, List.any_append]
  congr 1
  simp [List.getD_eq_getElem?_getD, h]
theorem indexF_c {w : World} {v vf : Value} {xs : List Int} {fc : Nat} {first cap : List Value} {p : Int → Bool} (h : SlI w v xs) (hvf : vf = .func (.func fc) first.toArray cap.toArray) (hfm : memB (Fns.L Try.prog) fc = true) (hp : PredI w fc first cap p) :
    Calls Try.prog 88 #[v, vf] w (Ret fun r w' => (∃ k : Int, r = .int .i64 k ∧ (0 ≤ k ↔ xs.any p = true)) ∧ Below w.heap.size w w') := by
  have hl := Sl.len h
  obtain ⟨A, c, rfl⟩ := Sl.shape h
  refine calls_W (vs := [_, _]) Try.func88 rfl (by kernel_rfl) rfl ?_
  (repeat (first | with_reducible refine W.seq ?_ | with_reducible refine Ops.nil ?_ | with_reducible refine W.region ?_ | refine z_p (kk := ?_) | with_reducible refine W.block ?_ | refine z_l (kk := ?_)))
  refine W.loop (fun m ρ w1 => ∃ (i : Nat), m = xs.length - i ∧ i ≤ xs.length ∧ ρ = [(0, .slice A xs.length c), (1, vf), (7, .int .i64 xs.length), (8, .int .i64 i)] ∧ Below w.heap.size w w1 ∧ (xs.take i).any p = false)
    ⟨_, _, ⟨0, rfl, Nat.zero_le _, rfl, Below.refl _ _, rfl⟩, (by repeat (first | exact trivial | refine And.intro rfl ?_))⟩ ?_
  rintro m ρ w1 ⟨i, rfl, hi, rfl, hb1, hno⟩
  (repeat (first | with_reducible refine W.seq ?_ | with_reducible refine Ops.nil ?_ | with_reducible refine W.region ?_ | refine z_p (kk := ?_)))
  (first | refine W.condD rfl (fun hc => ?_) (fun hc => ?_) | refine W.condE rfl (fun hc => ?_) (fun hc => ?_) | refine W.condN rfl (fun hc => ?_) (fun hc => ?_) | refine W.cond rfl (fun hc => ?_) (fun hc => ?_))
  · have hil : i < xs.length := by omega
    (repeat (first | with_reducible refine W.seq ?_ | with_reducible refine Ops.nil ?_ | with_reducible refine W.region ?_ | refine z_p (kk := ?_) | with_reducible refine W.skip ?_ | with_reducible refine W.block ?_ | refine z_I (kk := fun _ => ?_)))
    refine Ops.call rfl rfl rfl (callV_f hvf rfl rfl rfl) hfm (hp _ w1 hb1) (fun r w2 hR => ?_)
    obtain ⟨rfl, hb2⟩ := hR
    have hb02 := Below.via hb1 hb2
    have ht := any_take (p := p) hil
    rw [hno, Bool.false_or] at ht
    cases hpi : p (xs.getD i 0) with
    | true =>
      (repeat (first | with_reducible refine Ops.nil ?_))
      refine W.condT rfl (by first | rfl | assumption | (simp only [bnf] <;> omega) | (simp only [*, bnf]; done) | fail) ?_
      (repeat (first | with_reducible refine W.seq ?_ | with_reducible refine Ops.nil ?_ | with_reducible refine W.region ?_ | refine z_p (kk := ?_)))
      refine W.fret rfl ⟨⟨i, rfl, ?_⟩, hb02⟩
      rw [hpi] at ht
      refine ⟨fun _ => ?_, fun _ => by omega⟩
      rw [← List.take_append_drop (i + 1) xs, List.any_append, ht]
      rfl
    | false =>
      (repeat (first | with_reducible refine Ops.nil ?_))
      refine W.condF rfl (by first | rfl | assumption | (simp only [bnf] <;> omega) | (simp only [*, bnf]; done) | fail) ?_
      (repeat (first | with_reducible refine Ops.nil ?_ | with_reducible refine W.region ?_ | refine z_p (kk := ?_) | refine z_a (kk := ?_) | with_reducible refine W.skip ?_ | with_reducible refine W.endb ?_))
      exact W.endl ⟨_, _, ⟨⟨i + 1, rfl, by omega, rfl, hb02, by rw [ht, hpi]⟩, by omega⟩, (by repeat (first | exact trivial | refine And.intro rfl ?_))⟩
  · have hil : i = xs.length := by omega
    subst hil
    rw [List.take_length] at hno
    (repeat (first | with_reducible refine W.seq ?_ | with_reducible refine Ops.nil ?_ | with_reducible refine W.region ?_ | refine z_p (kk := ?_) | refine W.exit rfl ?_))
    exact W.fret rfl ⟨⟨-1, rfl, by rw [hno]; simp⟩, hb1⟩
theorem containsF_c {w : World} {v vf : Value} {xs : List Int} {fc : Nat} {first cap : List Value} {p : Int → Bool} (h : SlI w v xs) (hvf : vf = .func (.func fc) first.toArray cap.toArray) (hfm : memB (Fns.L Try.prog) fc = true) (hp : PredI w fc first cap p) :
    Calls Try.prog 69 #[v, vf] w (Ret fun r w' => r = .bool (xs.any p) ∧ Below w.heap.size w w') := by
  refine calls_W (vs := [_, _]) Try.func69 rfl (by kernel_rfl) rfl ?_
  (repeat (first | with_reducible refine W.seq ?_ | with_reducible refine Ops.nil ?_ | with_reducible refine W.region ?_ | refine z_p (kk := ?_)))
  refine Ops.call rfl rfl rfl rfl rfl (indexF_c h hvf hfm hp) (fun r w1 hR => ?_)
  obtain ⟨⟨k, rfl, hk⟩, hb1⟩ := hR
  (repeat (first | with_reducible refine Ops.nil ?_ | refine z_p (kk := ?_)))
  refine W.fret rfl ⟨?_, hb1⟩
  show Value.bool _ = _
  congr 1
  rw [Bool.eq_iff_iff, decide_eq_true_iff, ← hk]
end Go.Proofs.Ytehjmakiljhjdaa
namespace Go.Proofs.Ytehjmakiljhjdaa
open Go Go.RowKit Go.Proofs.Ytehjmakiljhjdaa.VW
attribute [local irreducible] W Ops OrdA VW.Ord OrdX
def PredR (wB : World) (fc : Nat) (first cap : List Value) (p : List Int → Bool) : Prop := ∀ (r : List Int) A m w', Below wB.heap.size wB w' → SlI w' (.slice A r.length m) r → Calls Try.prog fc (app3 first [.slice A r.length m] cap).toArray w' (Ret fun v w'' => v = .bool (p r) ∧ Below w'.heap.size w' w'')
theorem anyR_take {p : List Int → Bool} {xs : List (List Int)} {i : Nat} (h : i < xs.length) : (xs.take (i + 1)).any p = ((xs.take i).any p || p (xs.getD i [])) := by
  rw [List.take_add_one, List.any_append]
  congr 1
  simp [List.getD_eq_getElem?_getD, h]
theorem indexR_c {w : World} {v vf : Value} {xs : List (List Int)} {fc : Nat} {first cap : List Value} {p : List Int → Bool} (h : RowsM w v xs) (hvf : vf = .func (.func fc) first.toArray cap.toArray) (hfm : memB (Fns.L Try.prog) fc = true) (hp : PredR w fc first cap p) :
    Calls Try.prog 97 #[v, vf] w (Ret fun r w' => (∃ k : Int, r = .int .i64 k ∧ (0 ≤ k ↔ xs.any p = true)) ∧ Below w.heap.size w w') := by
  have hl := h.1
  obtain ⟨A, c, rfl⟩ := h.sl
  refine calls_W (vs := [_, _]) Try.func97 rfl (by kernel_rfl) rfl ?_
  (repeat (first | with_reducible refine W.seq ?_ | with_reducible refine Ops.nil ?_ | with_reducible refine W.region ?_ | refine z_p (kk := ?_) | with_reducible refine W.block ?_ | refine z_l (kk := ?_)))
  refine W.loop (fun m ρ w1 => ∃ (i : Nat), m = xs.length - i ∧ i ≤ xs.length ∧ ρ = [(0, .slice A xs.length c), (1, vf), (7, .int .i64 xs.length), (8, .int .i64 i)] ∧ Below w.heap.size w w1 ∧ (xs.take i).any p = false)
    ⟨_, _, ⟨0, rfl, Nat.zero_le _, rfl, Below.refl _ _, rfl⟩, (by repeat (first | exact trivial | refine And.intro rfl ?_))⟩ ?_
  rintro m ρ w1 ⟨i, rfl, hi, rfl, hb1, hno⟩
  (repeat (first | with_reducible refine W.seq ?_ | with_reducible refine Ops.nil ?_ | with_reducible refine W.region ?_ | refine z_p (kk := ?_)))
  (first | refine W.condD rfl (fun hc => ?_) (fun hc => ?_) | refine W.condE rfl (fun hc => ?_) (fun hc => ?_) | refine W.condN rfl (fun hc => ?_) (fun hc => ?_) | refine W.cond rfl (fun hc => ?_) (fun hc => ?_))
  · have hil : i < xs.length := by omega
    have ht := anyR_take (p := p) hil
    rw [hno, Bool.false_or] at ht
    (repeat (first | with_reducible refine W.seq ?_ | with_reducible refine Ops.nil ?_ | with_reducible refine W.region ?_ | refine z_p (kk := ?_) | with_reducible refine W.skip ?_ | with_reducible refine W.block ?_ | refine z_r (kk := fun _ _ _ _ => ?_)))
    rename_i Ar mr _ hr
    refine Ops.call rfl rfl rfl (callV_f hvf rfl rfl rfl) hfm (hp _ _ _ w1 hb1 (Sl.below hr hb1)) (fun r w2 hR => ?_)
    obtain ⟨rfl, hb2⟩ := hR
    have hb02 := Below.via hb1 hb2
    have hrow : row xs i = xs.getD i [] := by simp [row]
    rw [hrow]
    cases hpi : p (xs.getD i []) with
    | true =>
      (repeat (first | with_reducible refine Ops.nil ?_))
      refine W.condT rfl (by first | rfl | assumption | (simp only [bnf] <;> omega) | (simp only [*, bnf]; done) | fail) ?_
      (repeat (first | with_reducible refine W.seq ?_ | with_reducible refine Ops.nil ?_ | with_reducible refine W.region ?_ | refine z_p (kk := ?_)))
      refine W.fret rfl ⟨⟨i, rfl, ?_⟩, hb02⟩
      rw [hpi] at ht
      refine ⟨fun _ => ?_, fun _ => by omega⟩
      rw [← List.take_append_drop (i + 1) xs, List.any_append, ht]
      rfl
    | false =>
      (repeat (first | with_reducible refine Ops.nil ?_))
      refine W.condF rfl (by first | rfl | assumption | (simp only [bnf] <;> omega) | (simp only [*, bnf]; done) | fail) ?_
      (repeat (first | with_reducible refine Ops.nil ?_ | with_reducible refine W.region ?_ | refine z_p (kk := ?_) | refine z_a (kk := ?_) | with_reducible refine W.skip ?_ | with_reducible refine W.endb ?_))
      exact W.endl ⟨_, _, ⟨⟨i + 1, rfl, by omega, rfl, hb02, by rw [ht, hpi]⟩, by omega⟩, (by repeat (first | exact trivial | refine And.intro rfl ?_))⟩
  · have hil : i = xs.length := by omega
    subst hil
    rw [List.take_length] at hno
    (repeat (first | with_reducible refine W.seq ?_ | with_reducible refine Ops.nil ?_ | with_reducible refine W.region ?_ | refine z_p (kk := ?_) | refine W.exit rfl ?_))
    exact W.fret rfl ⟨⟨-1, rfl, by rw [hno]; simp⟩, hb1⟩
theorem containsR_c {w : World} {v vf : Value} {xs : List (List Int)} {fc : Nat} {first cap : List Value} {p : List Int → Bool} (h : RowsM w v xs) (hvf : vf = .func (.func fc) first.toArray cap.toArray) (hfm : memB (Fns.L Try.prog) fc = true) (hp : PredR w fc first cap p) :
    Calls Try.prog 82 #[v, vf] w (Ret fun r w' => r = .bool (xs.any p) ∧ Below w.heap.size w w') := by
  refine calls_W (vs := [_, _]) Try.func82 rfl (by kernel_rfl) rfl ?_
  (repeat (first | with_reducible refine W.seq ?_ | with_reducible refine Ops.nil ?_ | with_reducible refine W.region ?_ | refine z_p (kk := ?_)))
  refine Ops.call rfl rfl rfl rfl rfl (indexR_c h hvf hfm hp) (fun r w1 hR => ?_)
  obtain ⟨⟨k, rfl, hk⟩, hb1⟩ := hR
  (repeat (first | with_reducible refine Ops.nil ?_ | refine z_p (kk := ?_)))
  refine W.fret rfl ⟨?_, hb1⟩
  show Value.bool _ = _
  congr 1
  rw [Bool.eq_iff_iff, decide_eq_true_iff, ← hk]
def badN (x : Int) : Bool := !inR x (-1000) 1000
def badR (n : Nat) (r : List Int) : Bool := (r.length : Int) != n || r.any badN
/-- Are these costs? -/
def costsB (c : List (List Int)) : Bool := inR c.length 1 7 && !c.any (badR c.length)
theorem bad1_c (x : Int) (w : World) : Calls Try.prog 84 #[.int .i64 x] w (Ret fun v w' => v = .bool (badN x) ∧ Below w.heap.size w w') := by
  refine calls_W (vs := [_]) Try.func84 rfl (by kernel_rfl) rfl ?_
  (repeat (first | with_reducible refine W.seq ?_ | with_reducible refine Ops.nil ?_ | with_reducible refine W.region ?_ | refine z_p (kk := ?_)))
  refine Ops.callS rfl rfl rfl rfl rfl (within_c _ _ _ _) ?_
  (repeat (first | with_reducible refine Ops.nil ?_ | refine z_p (kk := ?_)))
  exact W.fret rfl ⟨rfl, Below.refl _ _⟩
theorem bad_c {w : World} {b : Nat} {cv : Value} {c : List (List Int)} (hB : Blk w b #[cv] 22) (hC : RowsM w cv c) {r : List Int} {A : Option Addr} {m : Nat} (hr : SlI w (.slice A r.length m) r) :
    Calls Try.prog 83 #[.slice A r.length m, .pointer (some ⟨b, 0, none⟩)] w (Ret fun v w' => v = .bool (badR c.length r) ∧ Below w.heap.size w w') := by
  have hl := hC.1
  have hrl := Sl.len hr
  obtain ⟨Ac, cc, rfl⟩ := hC.sl
  refine calls_W (vs := [_, _]) Try.func83 rfl (by kernel_rfl) rfl ?_
  by_cases h : r.length = c.length
  · (repeat (first | with_reducible refine W.seq ?_ | with_reducible refine Ops.nil ?_ | with_reducible refine W.region ?_ | refine z_p (kk := ?_) | refine z_y (kk := ?_) | refine z_l (kk := ?_) | refine z_d (kk := ?_) | refine z_h (kk := ?_)))
    refine Ops.call rfl rfl rfl rfl rfl (containsF_c (fc := 84) (first := []) (cap := []) (p := badN) hr rfl rfl (fun x w' _ => bad1_c x w')) (fun v w1 hR => ?_)
    obtain ⟨rfl, hb1⟩ := hR
    (repeat (first | with_reducible refine Ops.nil ?_ | refine z_p (kk := ?_)))
    refine W.fret rfl ⟨?_, hb1⟩
    show Value.bool _ = _
    simp [badR, h]
  · have h' : ¬ ((r.length : Int) = c.length) := by omega
    (repeat (first | with_reducible refine W.seq ?_ | with_reducible refine Ops.nil ?_ | with_reducible refine W.region ?_ | refine z_p (kk := ?_) | refine z_n (kk := ?_) | refine z_l (kk := ?_) | refine z_d (kk := ?_) | refine z_g (kk := ?_)))
    refine W.fret rfl ⟨?_, Below.refl _ _⟩
    show Value.bool _ = _
    simp [badR, h']
theorem areCosts_c {w : World} {v : Value} {c : List (List Int)} (hC : RowsM w v c) : Calls Try.prog 53 #[v] w (Ret fun r w' => r = .bool (costsB c) ∧ Below w.heap.size w w') := by
  have hl := hC.1
  obtain ⟨Ac, cc, rfl⟩ := hC.sl
  refine calls_W (vs := [_]) Try.func53 rfl (by kernel_rfl) rfl ?_
  (repeat (first | with_reducible refine W.seq ?_ | with_reducible refine W.region ?_))
  refine Ops.box rfl rfl rfl rfl (fun w1 b1 hM1 => ?_)
  have hB1 : Blk w1 b1 #[.slice Ac c.length cc] 22 := hM1.at_
  have hb1 : Below w.heap.size w w1 := Below.put (Below.refl _ _) hM1.kp (fun _ e => e.elim)
  have hC1 := hC.below hb1
  (repeat (first | with_reducible refine W.seq ?_ | with_reducible refine Ops.nil ?_ | with_reducible refine W.region ?_ | refine z_p (kk := ?_) | refine z_l (kk := ?_) | refine z_d (kk := ?_)))
  refine Ops.callS rfl rfl rfl rfl rfl (within_c _ _ _ _) ?_
  cases hin : inR c.length 1 7 with
  | true =>
    (repeat (first | refine z_p (kk := ?_) | refine z_y (kk := ?_) | refine z_d (kk := ?_)))
    refine Ops.call rfl rfl rfl rfl rfl (containsR_c (fc := 83) (first := []) (cap := [.pointer (some ⟨b1, 0, none⟩)]) (p := badR c.length) hC1 rfl rfl (fun r A m w' hb hr => bad_c (hB1.kp (Kp.of_below (S := fun _ => False) hb) (fun e => e)) (hC1.below hb) hr)) (fun v w2 hR => ?_)
    obtain ⟨rfl, hb2⟩ := hR
    (repeat (first | with_reducible refine Ops.nil ?_ | refine z_p (kk := ?_) | refine z_y (kk := ?_)))
    refine W.fret rfl ⟨?_, Below.via hb1 hb2⟩
    show Value.bool _ = _
    simp [costsB, hin]
  | false =>
    (repeat (first | with_reducible refine Ops.nil ?_ | refine z_p (kk := ?_) | refine z_n (kk := ?_)))
    refine W.fret rfl ⟨?_, hb1⟩
    show Value.bool _ = _
    simp [costsB, hin]
end Go.Proofs.Ytehjmakiljhjdaa
namespace Go.Proofs.Ytehjmakiljhjdaa
open Go Go.RowKit Go.Proofs.Ytehjmakiljhjdaa.VW
attribute [local irreducible] W Ops OrdA VW.Ord OrdX
theorem getD_memR {c : List (List Int)} {i : Nat} (h : i < c.length) : c.getD i [] ∈ c := by rw [List.getD_eq_getElem?_getD, List.getElem?_eq_getElem h]; exact List.getElem_mem h
theorem getD_memI {c : List Int} {i : Nat} (h : i < c.length) : c.getD i 0 ∈ c := by rw [List.getD_eq_getElem?_getD, List.getElem?_eq_getElem h]; exact List.getElem_mem h
theorem mem_getDR {c : List (List Int)} {r : List Int} (h : r ∈ c) : ∃ i : Nat, i < c.length ∧ c.getD i [] = r := by
  obtain ⟨i, hi, rfl⟩ := List.mem_iff_getElem.1 h
  exact ⟨i, hi, by simp [List.getD_eq_getElem?_getD, hi]⟩
theorem mem_getDI {c : List Int} {r : Int} (h : r ∈ c) : ∃ i : Nat, i < c.length ∧ c.getD i 0 = r := by
  obtain ⟨i, hi, rfl⟩ := List.mem_iff_getElem.1 h
  exact ⟨i, hi, by simp [List.getD_eq_getElem?_getD, hi]⟩
/-- What costs are. -/
structure Cst (c : List (List Int)) : Prop where
  n1 : 1 ≤ c.length
  n7 : c.length ≤ 7
  len : ∀ i : Nat, i < c.length → (c.getD i []).length = c.length
  bd : ∀ i j : Nat, i < c.length → j < c.length → -1000 ≤ (c.getD i []).getD j 0 ∧ (c.getD i []).getD j 0 ≤ 1000
theorem costs_iff {c : List (List Int)} : costsB c = true ↔ Cst c := by
  unfold costsB inR
  simp only [Bool.and_eq_true, decide_eq_true_eq, Bool.not_eq_true', List.any_eq_false]
  constructor
  · rintro ⟨⟨h1, h2⟩, h3⟩
    have h4 : ∀ i : Nat, i < c.length → (c.getD i []).length = c.length ∧ ∀ x ∈ c.getD i [], -1000 ≤ x ∧ x ≤ 1000 := fun i hi => by
      have := h3 _ (getD_memR hi)
      simp only [badR, badN, inR, Bool.or_eq_true, bne_iff_ne, ne_eq, List.any_eq_true, Bool.not_eq_true', Bool.and_eq_false_iff, decide_eq_false_iff_not, not_or, not_exists, not_and, Classical.not_not] at this
      refine ⟨by omega, fun x hx => ?_⟩
      have := this.2 x hx
      omega
    exact ⟨by omega, by omega, fun i hi => (h4 i hi).1, fun i j hi hj => (h4 i hi).2 _ (getD_memI (by rw [(h4 i hi).1]; exact hj))⟩
  · intro h
    have := h.n1; have := h.n7
    refine ⟨⟨by omega, by omega⟩, fun r hr => ?_⟩
    obtain ⟨i, hi, rfl⟩ := mem_getDR hr
    simp only [badR, badN, inR, Bool.or_eq_true, bne_iff_ne, ne_eq, List.any_eq_true, Bool.not_eq_true', Bool.and_eq_false_iff, decide_eq_false_iff_not, not_or, not_exists, not_and, Classical.not_not]
    refine ⟨by have := h.len i hi; omega, fun x hx => ?_⟩
    obtain ⟨j, hj, rfl⟩ := mem_getDI hx
    have := h.bd i j hi (by rw [← h.len i hi]; exact hj)
    exact ⟨this.1, this.2⟩
set_option maxHeartbeats 1000000 in
theorem refCosts_c {w : World} {v : Value} {c : List (List Int)} (hC : RowsM w v c) : Calls Try.prog 20 #[v] w (Ret fun r w' => r = .bool (costsB c) ∧ Below w.heap.size w w') := by
  have hl := hC.1
  obtain ⟨Ac, cc, rfl⟩ := hC.sl
  refine calls_W (vs := [_]) Try.func20 rfl (by kernel_rfl) rfl ?_
  (repeat (first | with_reducible refine W.seq ?_ | with_reducible refine Ops.nil ?_ | with_reducible refine W.region ?_ | refine z_p (kk := ?_) | with_reducible refine W.block ?_ | refine z_l (kk := ?_)))
  refine W.loop (fun m ρ w1 => ∃ (i : Nat), m = c.length - i ∧ i ≤ c.length ∧ ρ = [(0, .slice Ac c.length cc), (3, .int .i64 c.length), (4, .int .i64 i)] ∧ Below w.heap.size w w1 ∧ (0 < i → c.length ≤ 7) ∧ ∀ a : Nat, a < i → (c.getD a []).length = c.length ∧ ∀ j : Nat, j < c.length → -1000 ≤ (c.getD a []).getD j 0 ∧ (c.getD a []).getD j 0 ≤ 1000)
    ⟨_, _, ⟨0, rfl, Nat.zero_le _, rfl, Below.refl _ _, fun h => by omega, fun a ha => by omega⟩, (by repeat (first | exact trivial | refine And.intro rfl ?_))⟩ ?_
  rintro m ρ w1 ⟨i, rfl, hi, rfl, hb1, h7, hok⟩
  have hbad : ∀ {b : Bool}, (b = true ↔ Cst c) → (Value.bool b = Value.bool (costsB c)) := fun {b} h => by
    congr 1
    rw [Bool.eq_iff_iff, h, costs_iff]
  by_cases hil : i < c.length
  · by_cases hn7 : c.length ≤ 7
    · (repeat (first | with_reducible refine W.seq ?_ | with_reducible refine Ops.nil ?_ | with_reducible refine W.region ?_ | refine z_p (kk := ?_) | refine z_y (kk := ?_) | refine z_h (kk := ?_)))
      refine W.condT rfl (by first | rfl | assumption | (simp only [bnf] <;> omega) | (simp only [*, bnf]; done) | fail) ?_
      have hrow : row c i = c.getD i [] := by simp [row]
      by_cases hlen : (c.getD i []).length = c.length
      · have hlen' : (row c i).length = c.length := by rw [hrow]; exact hlen
        (repeat (first | with_reducible refine W.seq ?_ | with_reducible refine Ops.nil ?_ | with_reducible refine W.region ?_ | refine z_p (kk := ?_) | with_reducible refine W.skip ?_ | with_reducible refine W.block ?_ | refine z_l (kk := ?_) | refine z_r (kk := fun _ _ _ _ => ?_)))
        refine W.condF rfl (by first | rfl | assumption | (simp only [bnf] <;> omega) | (simp only [*, bnf]; done) | fail) ?_
        (repeat (first | with_reducible refine W.seq ?_ | with_reducible refine Ops.nil ?_ | with_reducible refine W.region ?_ | refine z_p (kk := ?_) | with_reducible refine W.skip ?_ | with_reducible refine W.block ?_))
        refine W.loop (fun m ρ w2 => ∃ (j : Nat), m = c.length - j ∧ j ≤ c.length ∧ ρ = [(0, .slice Ac c.length cc), (3, .int .i64 c.length), (4, .int .i64 i), (5, .int .i64 j)] ∧ Below w.heap.size w w2 ∧ ∀ q : Nat, q < j → -1000 ≤ (c.getD i []).getD q 0 ∧ (c.getD i []).getD q 0 ≤ 1000)
          ⟨_, _, ⟨0, rfl, Nat.zero_le _, rfl, hb1, fun q hq => by omega⟩, (by repeat (first | exact trivial | refine And.intro rfl ?_))⟩ ?_
        rintro m ρ w2 ⟨j, rfl, hj, rfl, hb2, hokj⟩
        (repeat (first | with_reducible refine W.seq ?_ | with_reducible refine Ops.nil ?_ | with_reducible refine W.region ?_ | refine z_p (kk := ?_)))
        (first | refine W.condD rfl (fun hc => ?_) (fun hc => ?_) | refine W.condE rfl (fun hc => ?_) (fun hc => ?_) | refine W.condN rfl (fun hc => ?_) (fun hc => ?_) | refine W.cond rfl (fun hc => ?_) (fun hc => ?_))
        · have hjl : j < c.length := by omega
          have hno : ¬ (-1000 ≤ (c.getD i []).getD j 0 ∧ (c.getD i []).getD j 0 ≤ 1000) → ¬ Cst c := fun h k => h (k.bd i j hil hjl)
          rw [← hrow] at hno
          by_cases hlo : (row c i).getD j 0 < -1000
          · (repeat (first | with_reducible refine W.seq ?_ | with_reducible refine Ops.nil ?_ | with_reducible refine W.region ?_ | refine z_p (kk := ?_) | refine z_n (kk := ?_) | with_reducible refine W.skip ?_ | with_reducible refine W.block ?_ | refine z_I (kk := fun _ => ?_) | refine z_r (kk := fun _ _ _ _ => ?_) | refine z_g (kk := ?_)))
            refine W.condT rfl (by first | rfl | assumption | (simp only [bnf] <;> omega) | (simp only [*, bnf]; done) | fail) ?_
            (repeat (first | with_reducible refine W.seq ?_ | with_reducible refine Ops.nil ?_ | with_reducible refine W.region ?_ | refine z_p (kk := ?_)))
            exact W.fret rfl ⟨hbad ⟨fun h => (by cases h), fun h => absurd h (hno (by omega))⟩, hb2⟩
          · by_cases hhi : (row c i).getD j 0 > 1000
            · (repeat (first | with_reducible refine W.seq ?_ | with_reducible refine Ops.nil ?_ | with_reducible refine W.region ?_ | refine z_p (kk := ?_) | refine z_y (kk := ?_) | with_reducible refine W.skip ?_ | with_reducible refine W.block ?_ | refine z_I (kk := fun _ => ?_) | refine z_r (kk := fun _ _ _ _ => ?_) | refine z_h (kk := ?_)))
              refine W.condT rfl (by first | rfl | assumption | (simp only [bnf] <;> omega) | (simp only [*, bnf]; done) | fail) ?_
              (repeat (first | with_reducible refine W.seq ?_ | with_reducible refine Ops.nil ?_ | with_reducible refine W.region ?_ | refine z_p (kk := ?_)))
              exact W.fret rfl ⟨hbad ⟨fun h => (by cases h), fun h => absurd h (hno (by omega))⟩, hb2⟩
            · (repeat (first | with_reducible refine W.seq ?_ | with_reducible refine Ops.nil ?_ | with_reducible refine W.region ?_ | refine z_p (kk := ?_) | refine z_y (kk := ?_) | with_reducible refine W.skip ?_ | with_reducible refine W.block ?_ | refine z_I (kk := fun _ => ?_) | refine z_r (kk := fun _ _ _ _ => ?_) | refine z_h (kk := ?_)))
              refine W.condF rfl (by first | rfl | assumption | (simp only [bnf] <;> omega) | (simp only [*, bnf]; done) | fail) ?_
              (repeat (first | with_reducible refine Ops.nil ?_ | with_reducible refine W.region ?_ | refine z_p (kk := ?_) | refine z_a (kk := ?_) | with_reducible refine W.skip ?_ | with_reducible refine W.endb ?_))
              exact W.endl ⟨_, _, ⟨⟨j + 1, rfl, by omega, rfl, hb2, fun q hq => by
                by_cases e : q = j
                · rw [e, ← hrow]; omega
                · exact hokj q (by omega)⟩, by omega⟩, (by repeat (first | exact trivial | refine And.intro rfl ?_))⟩
        · have hjl : j = c.length := by omega
          subst hjl
          (repeat (first | with_reducible refine Ops.nil ?_ | with_reducible refine W.region ?_ | refine z_p (kk := ?_) | refine z_a (kk := ?_) | with_reducible refine W.endb ?_ | refine W.exit rfl ?_))
          exact W.endl ⟨_, _, ⟨⟨i + 1, rfl, by omega, rfl, hb2, fun _ => hn7, fun a ha => by
            by_cases e : a = i
            · rw [e]; exact ⟨hlen, hokj⟩
            · exact hok a (by omega)⟩, by omega⟩, (by repeat (first | exact trivial | refine And.intro rfl ?_))⟩
      · have hlen' : ¬ (((row c i).length : Int) = c.length) := by rw [hrow]; omega
        (repeat (first | with_reducible refine W.seq ?_ | with_reducible refine Ops.nil ?_ | with_reducible refine W.region ?_ | refine z_p (kk := ?_) | with_reducible refine W.skip ?_ | with_reducible refine W.block ?_ | refine z_l (kk := ?_) | refine z_r (kk := fun _ _ _ _ => ?_)))
        refine W.condT rfl (by first | rfl | assumption | (simp only [bnf] <;> omega) | (simp only [*, bnf]; done) | fail) ?_
        (repeat (first | with_reducible refine W.seq ?_ | with_reducible refine Ops.nil ?_ | with_reducible refine W.region ?_ | refine z_p (kk := ?_)))
        exact W.fret rfl ⟨hbad ⟨fun h => (by cases h), fun h => absurd (h.len i hil) hlen⟩, hb1⟩
    · (repeat (first | with_reducible refine W.seq ?_ | with_reducible refine Ops.nil ?_ | with_reducible refine W.region ?_ | refine z_p (kk := ?_) | refine z_y (kk := ?_) | refine z_h (kk := ?_)))
      refine W.condF rfl (by first | rfl | assumption | (simp only [bnf] <;> omega) | (simp only [*, bnf]; done) | fail) ?_
      (repeat (first | with_reducible refine W.seq ?_ | with_reducible refine Ops.nil ?_ | with_reducible refine W.region ?_ | refine z_p (kk := ?_) | refine z_y (kk := ?_) | refine W.exit rfl ?_ | refine z_h (kk := ?_)))
      exact W.fret rfl ⟨hbad ⟨fun h => (by simp at h <;> omega), fun h => absurd h.n7 hn7⟩, hb1⟩
  · have hie : i = c.length := by omega
    subst hie
    by_cases h0 : c.length = 0
    · (repeat (first | with_reducible refine W.seq ?_ | with_reducible refine Ops.nil ?_ | with_reducible refine W.region ?_ | refine z_p (kk := ?_) | refine z_n (kk := ?_) | refine z_g (kk := ?_)))
      refine W.condF rfl (by first | rfl | assumption | (simp only [bnf] <;> omega) | (simp only [*, bnf]; done) | fail) ?_
      (repeat (first | with_reducible refine W.seq ?_ | with_reducible refine Ops.nil ?_ | with_reducible refine W.region ?_ | refine z_p (kk := ?_) | refine z_n (kk := ?_) | refine W.exit rfl ?_ | refine z_g (kk := ?_)))
      exact W.fret rfl ⟨hbad ⟨fun h => (by simp at h <;> omega), fun h => absurd h.n1 (by omega)⟩, hb1⟩
    · have hn7 := h7 (by omega)
      (repeat (first | with_reducible refine W.seq ?_ | with_reducible refine Ops.nil ?_ | with_reducible refine W.region ?_ | refine z_p (kk := ?_) | refine z_n (kk := ?_) | refine z_g (kk := ?_)))
      refine W.condF rfl (by first | rfl | assumption | (simp only [bnf] <;> omega) | (simp only [*, bnf]; done) | fail) ?_
      (repeat (first | with_reducible refine W.seq ?_ | with_reducible refine Ops.nil ?_ | with_reducible refine W.region ?_ | refine z_p (kk := ?_) | refine z_y (kk := ?_) | refine W.exit rfl ?_ | refine z_h (kk := ?_)))
      exact W.fret rfl ⟨hbad ⟨fun _ => ⟨by omega, hn7, fun a ha => (hok a ha).1, fun a j ha hj => (hok a ha).2 j hj⟩, fun _ => (by simp <;> omega)⟩, hb1⟩
end Go.Proofs.Ytehjmakiljhjdaa
namespace Go.Proofs.Ytehjmakiljhjdaa
open Go Go.RowKit Go.Proofs.Ytehjmakiljhjdaa.VW
attribute [local irreducible] W Ops OrdA VW.Ord OrdX
theorem index_c {w : World} {v : Value} {xs : List Int} {x : Int} (h : SlI w v xs) : Calls Try.prog 59 #[v, .int .i64 x] w (Ret fun r w' => (∃ k : Int, r = .int .i64 k ∧ (0 ≤ k ↔ x ∈ xs)) ∧ w' = w) := by
  have hl := Sl.len h
  obtain ⟨A, c, rfl⟩ := Sl.shape h
  refine calls_W (vs := [_, _]) Try.func59 rfl (by kernel_rfl) rfl ?_
  (repeat (first | with_reducible refine W.seq ?_ | with_reducible refine Ops.nil ?_ | with_reducible refine W.region ?_ | refine z_p (kk := ?_) | with_reducible refine W.block ?_ | refine z_l (kk := ?_)))
  refine W.loop (fun m ρ w1 => ∃ (i : Nat), m = xs.length - i ∧ i ≤ xs.length ∧ ρ = [(0, .slice A xs.length c), (1, .int .i64 x), (7, .int .i64 xs.length), (8, .int .i64 i)] ∧ w1 = w ∧ ¬ x ∈ xs.take i)
    ⟨_, _, ⟨0, rfl, Nat.zero_le _, rfl, rfl, by simp⟩, (by repeat (first | exact trivial | refine And.intro rfl ?_))⟩ ?_
  rintro m ρ w1 ⟨i, rfl, hi, rfl, rfl, hno⟩
  (repeat (first | with_reducible refine W.seq ?_ | with_reducible refine Ops.nil ?_ | with_reducible refine W.region ?_ | refine z_p (kk := ?_)))
  (first | refine W.condD rfl (fun hc => ?_) (fun hc => ?_) | refine W.condE rfl (fun hc => ?_) (fun hc => ?_) | refine W.condN rfl (fun hc => ?_) (fun hc => ?_) | refine W.cond rfl (fun hc => ?_) (fun hc => ?_))
  · have hil : i < xs.length := by omega
    have ht : xs.take (i + 1) = xs.take i ++ [xs.getD i 0] := by rw [List.take_add_one]; congr 1; simp [List.getD_eq_getElem?_getD, hil]
    by_cases e : x = xs.getD i 0
    · (repeat (first | with_reducible refine W.seq ?_ | with_reducible refine Ops.nil ?_ | with_reducible refine W.region ?_ | refine z_p (kk := ?_) | with_reducible refine W.skip ?_ | with_reducible refine W.block ?_ | refine z_I (kk := fun _ => ?_)))
      refine W.condT rfl (by first | rfl | assumption | (simp only [bnf] <;> omega) | (simp only [*, bnf]; done) | fail) ?_
      (repeat (first | with_reducible refine W.seq ?_ | with_reducible refine Ops.nil ?_ | with_reducible refine W.region ?_ | refine z_p (kk := ?_)))
      exact W.fret rfl ⟨⟨i, rfl, fun _ => by rw [e]; exact getD_memI hil, fun _ => by omega⟩, rfl⟩
    · (repeat (first | with_reducible refine W.seq ?_ | with_reducible refine Ops.nil ?_ | with_reducible refine W.region ?_ | refine z_p (kk := ?_) | with_reducible refine W.skip ?_ | with_reducible refine W.block ?_ | refine z_I (kk := fun _ => ?_)))
      refine W.condF rfl (by first | rfl | assumption | (simp only [bnf] <;> omega) | (simp only [*, bnf]; done) | fail) ?_
      (repeat (first | with_reducible refine Ops.nil ?_ | with_reducible refine W.region ?_ | refine z_p (kk := ?_) | refine z_a (kk := ?_) | with_reducible refine W.skip ?_ | with_reducible refine W.endb ?_))
      exact W.endl ⟨_, _, ⟨⟨i + 1, rfl, by omega, rfl, rfl, by rw [ht]; simp only [List.mem_append, List.mem_singleton, not_or]; exact ⟨hno, e⟩⟩, by omega⟩, (by repeat (first | exact trivial | refine And.intro rfl ?_))⟩
  · have hil : i = xs.length := by omega
    subst hil
    rw [List.take_length] at hno
    (repeat (first | with_reducible refine W.seq ?_ | with_reducible refine Ops.nil ?_ | with_reducible refine W.region ?_ | refine z_p (kk := ?_) | refine W.exit rfl ?_))
    exact W.fret rfl ⟨⟨-1, rfl, by simp [hno]⟩, rfl⟩
theorem contains_c {w : World} {v : Value} {xs : List Int} {x : Int} (h : SlI w v xs) : Calls Try.prog 60 #[v, .int .i64 x] w (Ret fun r w' => r = .bool (decide (x ∈ xs)) ∧ w' = w) := by
  refine calls_W (vs := [_, _]) Try.func60 rfl (by kernel_rfl) rfl ?_
  (repeat (first | with_reducible refine W.seq ?_ | with_reducible refine Ops.nil ?_ | with_reducible refine W.region ?_ | refine z_p (kk := ?_)))
  refine Ops.call rfl rfl rfl rfl rfl (index_c h) (fun r w1 hR => ?_)
  obtain ⟨⟨k, rfl, hk⟩, rfl⟩ := hR
  (repeat (first | with_reducible refine Ops.nil ?_ | refine z_p (kk := ?_)))
  refine W.fret rfl ⟨?_, rfl⟩
  show Value.bool _ = _
  congr 1
  rw [Bool.eq_iff_iff, decide_eq_true_iff, decide_eq_true_iff, ← hk]
/-- An assignment of n buttons. -/
def Asg (a : List Int) (n : Nat) : Prop := a.length = n ∧ ∀ i, i < a.length → (0 ≤ a.getD i 0 ∧ a.getD i 0 < n) ∧ ∀ k, k < i → a.getD k 0 ≠ a.getD i 0
instance (a : List Int) (n : Nat) : Decidable (Asg a n) := by unfold Asg; infer_instance
theorem take_mem {xs : List Int} {i : Nat} {x : Int} (hi : i ≤ xs.length) : x ∈ xs.take i ↔ ∃ k, k < i ∧ xs.getD k 0 = x := by
  constructor
  · intro h
    obtain ⟨k, hk, e⟩ := mem_getDI h
    rw [List.length_take] at hk
    refine ⟨k, by omega, ?_⟩
    rw [← e]
    simp [List.getD_eq_getElem?_getD, List.getElem?_take, show k < i by omega]
  · rintro ⟨k, hk, rfl⟩
    have : (xs.take i).getD k 0 = xs.getD k 0 := by simp [List.getD_eq_getElem?_getD, List.getElem?_take, hk]
    rw [← this]
    exact getD_memI (by rw [List.length_take]; omega)
theorem sl_take {w : World} {A : Option Addr} {m c : Nat} {xs : List Int} (h : SlI w (.slice A m c) xs) (q : Nat) (hq : q ≤ xs.length) : SlI w (.slice A q c) (xs.take q) := by
  obtain ⟨h1, A', c', e, h2⟩ := h
  cases e
  have hl : (xs.take q).length = q := by rw [List.length_take]; omega
  refine ⟨by omega, A, c, by rw [hl], fun hp => ?_⟩
  obtain ⟨a, rfl, hc⟩ := h2 (by omega)
  refine ⟨a, rfl, fun j hj => ?_⟩
  rw [hc j (by omega)]
  simp [List.getD_eq_getElem?_getD, List.getElem?_take, show j < q by omega]
/-- A list of numbers that has room for itself. -/
def Arg (w : World) (v : Value) (xs : List Int) : Prop := SlI w v xs ∧ ∃ A c, v = .slice A xs.length c ∧ xs.length ≤ c
theorem Arg.below {w w' : World} {v : Value} {xs : List Int} (h : Arg w v xs) (k : Below w.heap.size w w') : Arg w' v xs := ⟨Sl.below h.1 k, h.2⟩
theorem isAsg_c {w : World} {cv v : Value} {c : List (List Int)} {xs : List Int} (hC : RowsM w cv c) (hn : c.length ≤ 7) (h : Arg w v xs) : Calls Try.prog 66 #[cv, v] w (Ret fun r w' => r = .bool (decide (Asg xs c.length)) ∧ w' = w) := by
  have hl := Sl.len h.1
  obtain ⟨Ac, cc, rfl⟩ := hC.sl
  obtain ⟨hs, A, k, rfl, hk⟩ := h
  refine calls_W (vs := [_, _]) Try.func66 rfl (by kernel_rfl) rfl ?_
  by_cases hlen : xs.length = c.length
  · (repeat (first | with_reducible refine W.seq ?_ | with_reducible refine Ops.nil ?_ | with_reducible refine W.region ?_ | refine z_p (kk := ?_) | refine z_l (kk := ?_)))
    refine W.condF rfl (by first | rfl | assumption | (simp only [bnf] <;> omega) | (simp only [*, bnf]; done) | fail) ?_
    (repeat (first | with_reducible refine W.seq ?_ | with_reducible refine Ops.nil ?_ | with_reducible refine W.region ?_ | refine z_p (kk := ?_) | with_reducible refine W.skip ?_ | with_reducible refine W.block ?_ | refine z_l (kk := ?_)))
    refine W.loop (fun m ρ w1 => ∃ (i : Nat), m = xs.length - i ∧ i ≤ xs.length ∧ ρ = [(0, .slice Ac c.length cc), (1, .slice A xs.length k), (12, .slice A xs.length k), (13, .int .i64 xs.length), (14, .int .i64 i)] ∧ w1 = w ∧ ∀ j, j < i → (0 ≤ xs.getD j 0 ∧ xs.getD j 0 < c.length) ∧ ∀ q, q < j → xs.getD q 0 ≠ xs.getD j 0)
      ⟨_, _, ⟨0, rfl, Nat.zero_le _, rfl, rfl, fun j hj => by omega⟩, (by repeat (first | exact trivial | refine And.intro rfl ?_))⟩ ?_
    rintro m ρ w1 ⟨i, rfl, hi, rfl, rfl, hok⟩
    (repeat (first | with_reducible refine W.seq ?_ | with_reducible refine Ops.nil ?_ | with_reducible refine W.region ?_ | refine z_p (kk := ?_)))
    (first | refine W.condD rfl (fun hc => ?_) (fun hc => ?_) | refine W.condE rfl (fun hc => ?_) (fun hc => ?_) | refine W.condN rfl (fun hc => ?_) (fun hc => ?_) | refine W.cond rfl (fun hc => ?_) (fun hc => ?_))
    · have hil : i < xs.length := by omega
      (repeat (first | with_reducible refine W.seq ?_ | with_reducible refine Ops.nil ?_ | with_reducible refine W.region ?_ | refine z_p (kk := ?_) | refine z_a (kk := ?_) | with_reducible refine W.skip ?_ | with_reducible refine W.block ?_ | refine z_l (kk := ?_) | refine z_I (kk := fun _ => ?_)))
      refine Ops.callS rfl rfl rfl rfl rfl (within_c _ _ _ _) ?_
      have hdec : ∀ {b : Bool}, (b = true → False) → (∀ h : Asg xs c.length, False) → Value.bool b = Value.bool (decide (Asg xs c.length)) := fun {b} h1 h2 => by
        rw [decide_eq_false h2]
        cases b
        · rfl
        · exact absurd rfl h1
      cases hin : inR (xs.getD i 0) 0 (c.length - 1) with
      | true =>
        simp only [inR, Bool.and_eq_true, decide_eq_true_eq] at hin
        (repeat (first | refine z_p (kk := ?_) | refine z_y (kk := ?_)))
        refine Ops.slH rfl rfl rfl rfl rfl rfl rfl (by omega) (by omega) ?_
        rw [Int.toNat_natCast]
        (repeat (first | refine z_p (kk := ?_) | refine z_y (kk := ?_)))
        refine Ops.call rfl rfl rfl rfl rfl (contains_c (sl_take hs i (by omega))) (fun r w2 hR => ?_)
        obtain ⟨rfl, rfl⟩ := hR
        by_cases hm : xs.getD i 0 ∈ xs.take i
        · rw [decide_eq_true hm]
          obtain ⟨q, hq, e⟩ := (take_mem (by omega)).1 hm
          (repeat (first | with_reducible refine Ops.nil ?_ | refine z_p (kk := ?_)))
          refine W.condT rfl (by first | rfl | assumption | (simp only [bnf] <;> omega) | (simp only [*, bnf]; done) | fail) ?_
          (repeat (first | with_reducible refine W.seq ?_ | with_reducible refine Ops.nil ?_ | with_reducible refine W.region ?_ | refine z_p (kk := ?_)))
          exact W.fret rfl ⟨hdec (fun h => (by cases h)) (fun h => (h.2 i hil).2 q hq e), rfl⟩
        · rw [decide_eq_false hm]
          (repeat (first | with_reducible refine Ops.nil ?_ | refine z_p (kk := ?_)))
          refine W.condF rfl (by first | rfl | assumption | (simp only [bnf] <;> omega) | (simp only [*, bnf]; done) | fail) ?_
          (repeat (first | with_reducible refine Ops.nil ?_ | with_reducible refine W.region ?_ | refine z_p (kk := ?_) | refine z_a (kk := ?_) | with_reducible refine W.skip ?_ | with_reducible refine W.endb ?_))
          refine W.endl ⟨_, _, ⟨⟨i + 1, rfl, by omega, rfl, rfl, fun j hj => ?_⟩, by omega⟩, (by repeat (first | exact trivial | refine And.intro rfl ?_))⟩
          by_cases e : j = i
          · rw [e]; exact ⟨by omega, fun q hq e => hm ((take_mem (by omega)).2 ⟨q, hq, e⟩)⟩
          · exact hok j (by omega)
      | false =>
        (repeat (first | with_reducible refine Ops.nil ?_ | refine z_p (kk := ?_) | refine z_n (kk := ?_)))
        refine W.condT rfl (by first | rfl | assumption | (simp only [bnf] <;> omega) | (simp only [*, bnf]; done) | fail) ?_
        (repeat (first | with_reducible refine W.seq ?_ | with_reducible refine Ops.nil ?_ | with_reducible refine W.region ?_ | refine z_p (kk := ?_)))
        refine W.fret rfl ⟨hdec (fun h => (by cases h)) (fun h => ?_), rfl⟩
        have := (h.2 i hil).1
        rw [← Bool.not_eq_true] at hin
        refine hin ?_
        simp only [inR, Bool.and_eq_true, decide_eq_true_eq]
        omega
    · have hil : i = xs.length := by omega
      subst hil
      (repeat (first | with_reducible refine W.seq ?_ | with_reducible refine Ops.nil ?_ | with_reducible refine W.region ?_ | refine z_p (kk := ?_) | refine W.exit rfl ?_))
      exact W.fret rfl ⟨by rw [decide_eq_true ⟨hlen, hok⟩]; rfl, rfl⟩
  · have hlen' : ¬ ((xs.length : Int) = c.length) := by omega
    (repeat (first | with_reducible refine W.seq ?_ | with_reducible refine Ops.nil ?_ | with_reducible refine W.region ?_ | refine z_p (kk := ?_) | refine z_l (kk := ?_)))
    refine W.condT rfl (by first | rfl | assumption | (simp only [bnf] <;> omega) | (simp only [*, bnf]; done) | fail) ?_
    (repeat (first | with_reducible refine W.seq ?_ | with_reducible refine Ops.nil ?_ | with_reducible refine W.region ?_ | refine z_p (kk := ?_)))
    exact W.fret rfl ⟨by rw [decide_eq_false (fun h => hlen h.1)]; rfl, rfl⟩
/-- A total, as far as button i. -/
def totP (c : List (List Int)) (a : List Int) : Nat → Int
  | 0 => 0
  | i + 1 => totP c a i + (c.getD i []).getD (a.getD i 0).toNat 0
theorem totP_bd {c : List (List Int)} {a : List Int} (hC : Cst c) (ha : ∀ i, i < a.length → 0 ≤ a.getD i 0 ∧ a.getD i 0 < c.length) (hl : a.length ≤ c.length) : ∀ i, i ≤ a.length → -(1000 * (i : Int)) ≤ totP c a i ∧ totP c a i ≤ 1000 * (i : Int)
  | 0, _ => by simp [totP]
  | i + 1, h => by
    have h1 := totP_bd hC ha hl i (by omega)
    have h2 := ha i (by omega)
    have h3 := hC.bd i (a.getD i 0).toNat (by omega) (by omega)
    simp only [totP]
    omega
theorem total_c {w : World} {cv v : Value} {c : List (List Int)} {xs : List Int} (hM : RowsM w cv c) (hC : Cst c) (h : SlI w v xs) (ha : ∀ i, i < xs.length → 0 ≤ xs.getD i 0 ∧ xs.getD i 0 < c.length) (hlen : xs.length ≤ c.length) : Calls Try.prog 63 #[cv, v] w (Ret fun r w' => r = .int .i64 (totP c xs xs.length) ∧ w' = w) := by
  have hl := Sl.len h
  have hn7 := hC.n7
  obtain ⟨Ac, cc, rfl⟩ := hM.sl
  obtain ⟨A, k, rfl⟩ := Sl.shape h
  refine calls_W (vs := [_, _]) Try.func63 rfl (by kernel_rfl) rfl ?_
  (repeat (first | with_reducible refine W.seq ?_ | with_reducible refine Ops.nil ?_ | with_reducible refine W.region ?_ | refine z_p (kk := ?_) | with_reducible refine W.block ?_ | refine z_l (kk := ?_)))
  refine W.loop (fun m ρ w1 => ∃ (i : Nat), m = xs.length - i ∧ i ≤ xs.length ∧ ρ = [(0, .slice Ac c.length cc), (5, .int .i64 (totP c xs i)), (8, .slice A xs.length k), (9, .int .i64 xs.length), (10, .int .i64 i)] ∧ w1 = w)
    ⟨_, _, ⟨0, rfl, Nat.zero_le _, rfl, rfl⟩, (by repeat (first | exact trivial | refine And.intro rfl ?_))⟩ ?_
  rintro m ρ w1 ⟨i, rfl, hi, rfl, rfl⟩
  have hbd := totP_bd hC ha hlen i hi
  (repeat (first | with_reducible refine W.seq ?_ | with_reducible refine Ops.nil ?_ | with_reducible refine W.region ?_ | refine z_p (kk := ?_)))
  (first | refine W.condD rfl (fun hc => ?_) (fun hc => ?_) | refine W.condE rfl (fun hc => ?_) (fun hc => ?_) | refine W.condN rfl (fun hc => ?_) (fun hc => ?_) | refine W.cond rfl (fun hc => ?_) (fun hc => ?_))
  · have hil : i < xs.length := by omega
    have hai := ha i hil
    have hcl := hC.len i (by omega)
    have hcb := hC.bd i (xs.getD i 0).toNat (by omega) (by omega)
    have hrow : row c (i : Int) = c.getD i [] := by simp [row]
    rw [← hrow] at hcl hcb
    (repeat (first | with_reducible refine W.seq ?_ | with_reducible refine Ops.nil ?_ | with_reducible refine W.region ?_ | refine z_p (kk := ?_) | refine z_a (kk := ?_) | with_reducible refine W.skip ?_ | with_reducible refine W.endb ?_ | with_reducible refine W.block ?_ | refine z_I (kk := fun _ => ?_) | refine z_K (kk := fun _ => ?_) | refine z_r (kk := fun _ _ _ _ => ?_)))
    refine W.endl ⟨_, _, ⟨⟨i + 1, rfl, by omega, rfl, rfl⟩, by omega⟩, ?_⟩
    simp only [totP, ← hrow]
    exact (by repeat (first | exact trivial | refine And.intro rfl ?_))
  · have hil : i = xs.length := by omega
    subst hil
    (repeat (first | with_reducible refine W.seq ?_ | with_reducible refine Ops.nil ?_ | with_reducible refine W.region ?_ | refine z_p (kk := ?_) | refine W.exit rfl ?_))
    exact W.fret rfl ⟨rfl, rfl⟩
set_option maxHeartbeats 1000000 in
theorem refTotal_c {w : World} {cv v : Value} {c : List (List Int)} {xs : List Int} (hM : RowsM w cv c) (hC : Cst c) (h : SlI w v xs) (ha : ∀ i, i < xs.length → 0 ≤ xs.getD i 0 ∧ xs.getD i 0 < c.length) (hlen : xs.length ≤ c.length) : Calls Try.prog 41 #[cv, v] w (Ret fun r w' => r = .int .i64 (totP c xs xs.length) ∧ Below w.heap.size w w') := by
  have hl := Sl.len h
  have hn7 := hC.n7
  obtain ⟨Ac, cc, rfl⟩ := hM.sl
  obtain ⟨A, k, rfl⟩ := Sl.shape h
  refine calls_W (vs := [_, _]) Try.func41 rfl (by kernel_rfl) rfl ?_
  (repeat (first | with_reducible refine W.seq ?_ | with_reducible refine Ops.nil ?_ | with_reducible refine W.region ?_ | refine z_p (kk := ?_) | with_reducible refine W.block ?_))
  refine W.loop (fun m ρ w1 => ∃ (i : Nat), m = xs.length - i ∧ i ≤ xs.length ∧ ρ = [(0, .slice Ac c.length cc), (1, .slice A xs.length k), (5, .int .i64 (totP c xs i)), (6, .int .i64 i)] ∧ Below w.heap.size w w1)
    ⟨_, _, ⟨0, rfl, Nat.zero_le _, rfl, Below.refl _ _⟩, (by repeat (first | exact trivial | refine And.intro rfl ?_))⟩ ?_
  rintro m ρ w1 ⟨i, rfl, hi, rfl, hb1⟩
  have hbd := totP_bd hC ha hlen i hi
  (repeat (first | with_reducible refine W.seq ?_ | with_reducible refine Ops.nil ?_ | with_reducible refine W.region ?_ | refine z_p (kk := ?_) | refine z_l (kk := ?_)))
  (first | refine W.condD rfl (fun hc => ?_) (fun hc => ?_) | refine W.condE rfl (fun hc => ?_) (fun hc => ?_) | refine W.condN rfl (fun hc => ?_) (fun hc => ?_) | refine W.cond rfl (fun hc => ?_) (fun hc => ?_))
  · have hil : i < xs.length := by omega
    have hai := ha i hil
    have hcl := hC.len i (by omega)
    have hcb := hC.bd i (xs.getD i 0).toNat (by omega) (by omega)
    have hrow : row c (i : Int) = c.getD i [] := by simp [row]
    rw [← hrow] at hcl hcb
    (repeat (first | with_reducible refine W.seq ?_ | with_reducible refine W.skip ?_ | with_reducible refine W.block ?_))
    refine W.ordA 99 [(0, 1), (1, 1), (2, 1), (3, 1), (4, 2), (5, 1), (6, 1), (7, 1), (8, 2), (9, 1), (10, 2), (11, 1), (12, 1)] rfl (by kernel_rfl) rfl (by kernel_rfl) (fun _ _ _ h => h) ?_
    (repeat (first | refine x_p (kk := ?_) | refine x_a (kk := ?_) | refine x_I (kk := fun _ => ?_) | refine x_K (kk := fun _ => ?_) | refine x_r (kk := fun _ _ _ _ => ?_)))
    refine OrdA.nil (fun w2 hb2 => ?_)
    have hb02 := Below.via hb1 hb2
    (repeat (first | with_reducible refine Ops.nil ?_ | with_reducible refine W.region ?_ | refine z_p (kk := ?_) | refine z_a (kk := ?_) | with_reducible refine W.endb ?_))
    refine W.endl ⟨_, _, ⟨⟨i + 1, rfl, by omega, rfl, hb02⟩, by omega⟩, ?_⟩
    simp only [totP, ← hrow]
    exact (by repeat (first | exact trivial | refine And.intro rfl ?_))
  · have hil : i = xs.length := by omega
    subst hil
    (repeat (first | with_reducible refine W.seq ?_ | with_reducible refine Ops.nil ?_ | with_reducible refine W.region ?_ | refine z_p (kk := ?_) | refine W.exit rfl ?_))
    exact W.fret rfl ⟨rfl, hb1⟩
set_option maxHeartbeats 1000000 in
theorem refAsg_c {w : World} {v : Value} {xs : List Int} {n : Nat} (h : SlI w v xs) (hn : n ≤ 1000) : Calls Try.prog 29 #[v, .int .i64 n] w (Ret fun r w' => r = .bool (decide (Asg xs n)) ∧ Below w.heap.size w w') := by
  have hl := Sl.len h
  obtain ⟨A, k, rfl⟩ := Sl.shape h
  refine calls_W (vs := [_, _]) Try.func29 rfl (by kernel_rfl) rfl ?_
  (repeat (first | with_reducible refine W.seq ?_ | with_reducible refine Ops.nil ?_ | with_reducible refine W.region ?_ | refine z_p (kk := ?_) | with_reducible refine W.block ?_))
  have hdec : (∀ h : Asg xs n, False) → Value.bool false = Value.bool (decide (Asg xs n)) := fun h2 => by rw [decide_eq_false h2]
  refine W.loop (fun m ρ w1 => ∃ (i : Nat), m = xs.length - i ∧ i ≤ xs.length ∧ ρ = [(0, .slice A xs.length k), (1, .int .i64 n), (5, .int .i64 i)] ∧ Below w.heap.size w w1 ∧ ∀ j, j < i → (0 ≤ xs.getD j 0 ∧ xs.getD j 0 < n) ∧ ∀ q, q < j → xs.getD q 0 ≠ xs.getD j 0)
    ⟨_, _, ⟨0, rfl, Nat.zero_le _, rfl, Below.refl _ _, fun j hj => by omega⟩, (by repeat (first | exact trivial | refine And.intro rfl ?_))⟩ ?_
  rintro m ρ w1 ⟨i, rfl, hi, rfl, hb1, hok⟩
  (repeat (first | with_reducible refine W.seq ?_ | with_reducible refine Ops.nil ?_ | with_reducible refine W.region ?_ | refine z_p (kk := ?_) | refine z_l (kk := ?_)))
  (first | refine W.condD rfl (fun hc => ?_) (fun hc => ?_) | refine W.condE rfl (fun hc => ?_) (fun hc => ?_) | refine W.condN rfl (fun hc => ?_) (fun hc => ?_) | refine W.cond rfl (fun hc => ?_) (fun hc => ?_))
  · have hil : i < xs.length := by omega
    by_cases h0 : xs.getD i 0 < 0
    · (repeat (first | with_reducible refine W.seq ?_ | with_reducible refine Ops.nil ?_ | with_reducible refine W.region ?_ | refine z_p (kk := ?_) | refine z_n (kk := ?_) | with_reducible refine W.skip ?_ | with_reducible refine W.block ?_ | refine z_I (kk := fun _ => ?_) | refine z_g (kk := ?_)))
      refine W.condT rfl (by first | rfl | assumption | (simp only [bnf] <;> omega) | (simp only [*, bnf]; done) | fail) ?_
      (repeat (first | with_reducible refine W.seq ?_ | with_reducible refine Ops.nil ?_ | with_reducible refine W.region ?_ | refine z_p (kk := ?_)))
      exact W.fret rfl ⟨hdec (fun h => by have := (h.2 i hil).1; omega), hb1⟩
    · by_cases h2 : xs.getD i 0 ≥ n
      · (repeat (first | with_reducible refine W.seq ?_ | with_reducible refine Ops.nil ?_ | with_reducible refine W.region ?_ | refine z_p (kk := ?_) | refine z_y (kk := ?_) | with_reducible refine W.skip ?_ | with_reducible refine W.block ?_ | refine z_I (kk := fun _ => ?_) | refine z_h (kk := ?_)))
        refine W.condT rfl (by first | rfl | assumption | (simp only [bnf] <;> omega) | (simp only [*, bnf]; done) | fail) ?_
        (repeat (first | with_reducible refine W.seq ?_ | with_reducible refine Ops.nil ?_ | with_reducible refine W.region ?_ | refine z_p (kk := ?_)))
        exact W.fret rfl ⟨hdec (fun h => by have := (h.2 i hil).1; omega), hb1⟩
      · (repeat (first | with_reducible refine W.seq ?_ | with_reducible refine Ops.nil ?_ | with_reducible refine W.region ?_ | refine z_p (kk := ?_) | refine z_y (kk := ?_) | with_reducible refine W.skip ?_ | with_reducible refine W.block ?_ | refine z_I (kk := fun _ => ?_) | refine z_h (kk := ?_)))
        refine W.condF rfl (by first | rfl | assumption | (simp only [bnf] <;> omega) | (simp only [*, bnf]; done) | fail) ?_
        (repeat (first | with_reducible refine W.seq ?_ | with_reducible refine Ops.nil ?_ | with_reducible refine W.region ?_ | refine z_p (kk := ?_) | with_reducible refine W.skip ?_ | with_reducible refine W.block ?_))
        refine W.loop (fun m ρ w2 => ∃ (q : Nat), m = i - q ∧ q ≤ i ∧ ρ = [(0, .slice A xs.length k), (1, .int .i64 n), (5, .int .i64 i), (6, .int .i64 q)] ∧ Below w.heap.size w w2 ∧ ∀ p, p < q → xs.getD p 0 ≠ xs.getD i 0)
          ⟨_, _, ⟨0, rfl, Nat.zero_le _, rfl, hb1, fun p hp => by omega⟩, (by repeat (first | exact trivial | refine And.intro rfl ?_))⟩ ?_
        rintro m ρ w2 ⟨q, rfl, hq, rfl, hb2, hne⟩
        (repeat (first | with_reducible refine W.seq ?_ | with_reducible refine Ops.nil ?_ | with_reducible refine W.region ?_ | refine z_p (kk := ?_)))
        (first | refine W.condD rfl (fun hc => ?_) (fun hc => ?_) | refine W.condE rfl (fun hc => ?_) (fun hc => ?_) | refine W.condN rfl (fun hc => ?_) (fun hc => ?_) | refine W.cond rfl (fun hc => ?_) (fun hc => ?_))
        · have hql : q < i := by omega
          (repeat (first | with_reducible refine W.seq ?_ | with_reducible refine W.skip ?_ | with_reducible refine W.block ?_))
          refine W.ordA 99 [(0, 1), (1, 1), (2, 1), (3, 2), (4, 1), (5, 1), (6, 1), (7, 2), (8, 1)] rfl (by kernel_rfl) rfl (by kernel_rfl) (fun _ _ _ h => h) ?_
          (repeat (first | refine x_p (kk := ?_) | refine x_I (kk := fun _ => ?_)))
          refine OrdA.nil (fun w3 hb3 => ?_)
          have hb03 := Below.via hb2 hb3
          by_cases e : xs.getD q 0 = xs.getD i 0
          · skip
            refine W.condT rfl (by first | rfl | assumption | (simp only [bnf] <;> omega) | (simp only [*, bnf]; done) | fail) ?_
            (repeat (first | with_reducible refine W.seq ?_ | with_reducible refine Ops.nil ?_ | with_reducible refine W.region ?_ | refine z_p (kk := ?_)))
            exact W.fret rfl ⟨hdec (fun h => (h.2 i hil).2 q hql e), hb03⟩
          · skip
            refine W.condF rfl (by first | rfl | assumption | (simp only [bnf] <;> omega) | (simp only [*, bnf]; done) | fail) ?_
            (repeat (first | with_reducible refine Ops.nil ?_ | with_reducible refine W.region ?_ | refine z_p (kk := ?_) | refine z_a (kk := ?_) | with_reducible refine W.skip ?_ | with_reducible refine W.endb ?_))
            exact W.endl ⟨_, _, ⟨⟨q + 1, rfl, by omega, rfl, hb03, fun p hp => by
              by_cases e2 : p = q
              · rw [e2]; exact e
              · exact hne p (by omega)⟩, by omega⟩, (by repeat (first | exact trivial | refine And.intro rfl ?_))⟩
        · have hql : q = i := by omega
          subst hql
          (repeat (first | with_reducible refine Ops.nil ?_ | with_reducible refine W.region ?_ | refine z_p (kk := ?_) | refine z_a (kk := ?_) | with_reducible refine W.endb ?_ | refine W.exit rfl ?_))
          exact W.endl ⟨_, _, ⟨⟨q + 1, rfl, by omega, rfl, hb2, fun j hj => by
            by_cases e : j = q
            · rw [e]; exact ⟨by omega, hne⟩
            · exact hok j (by omega)⟩, by omega⟩, (by repeat (first | exact trivial | refine And.intro rfl ?_))⟩
  · have hil : i = xs.length := by omega
    subst hil
    (repeat (first | with_reducible refine W.seq ?_ | with_reducible refine Ops.nil ?_ | with_reducible refine W.region ?_ | refine z_p (kk := ?_) | refine W.exit rfl ?_ | refine z_l (kk := ?_)))
    refine W.fret rfl ⟨?_, hb1⟩
    show Value.bool _ = _
    congr 1
    rw [Bool.eq_iff_iff, decide_eq_true_iff, beq_iff_eq]
    exact ⟨fun h => ⟨by omega, hok⟩, fun h => by have := h.1; omega⟩
end Go.Proofs.Ytehjmakiljhjdaa
/- Lists of lists of the call's own. -/
namespace Go.Proofs.Ytehjmakiljhjdaa.VW
open Go Go.RowKit
theorem sl_kp' {α : Type} {enc : α → Value} {z : α} {w w' : World} {v : Value} {xs : List α} {S : Nat → Prop} (h : Sl enc z w v xs) (k : Kp S w w') (hs : 0 < xs.length → ∀ i, v.ownBlock = some i → ¬ S i) : Sl enc z w' v xs := by
  by_cases hp : 0 < xs.length
  · exact h.kp k (hs hp)
  · obtain ⟨h1, A, c, e, _⟩ := h
    exact ⟨h1, A, c, e, fun h => absurd h hp⟩
theorem appV_getD {α : Type} {xs : List α} {z d : α} {j : Nat} (h : j < xs.length) : (xs ++ [z]).getD j d = xs.getD j d := by rw [List.getD_eq_getElem?_getD, List.getElem?_append_left h, ← List.getD_eq_getElem?_getD]
theorem appV_last {α : Type} {xs : List α} {z d : α} {n : Nat} (h : n = xs.length) : (xs ++ [z]).getD n d = z := by subst h; simp [List.getD_eq_getElem?_getD]
structure RO (e : Nat) (w0 w : World) (ov : Value) (cvs : List Value) (c : List (List Int)) : Prop where
  o : OI e (fun v : Value => v) w0 w ov cvs
  len : cvs.length = c.length
  rows : ∀ j, j < c.length → SlI w (cvs.getD j undef) (c.getD j []) ∧ (0 < (c.getD j []).length → ∀ i, (cvs.getD j undef).ownBlock = some i → ov.ownBlock ≠ some i)
theorem RO.nil {e : Nat} {w0 w : World} (h : Below w0.heap.size w0 w) : RO e w0 w (.slice none 0 0) [] [] := ⟨OI.nil h, rfl, fun j hj => by simp at hj⟩
theorem RO.below {e : Nat} {w0 w w' : World} {ov : Value} {c : List (List Int)} {cvs : List Value} (h : RO e w0 w ov cvs c) (k : Below w.heap.size w w') : RO e w0 w' ov cvs c :=
  ⟨h.o.below k, h.len, fun j hj => ⟨Sl.below (h.rows j hj).1 k, (h.rows j hj).2⟩⟩
theorem RO.up {e : Nat} {w0 w1 w : World} {ov : Value} {c : List (List Int)} {cvs : List Value} (h : RO e w1 w ov cvs c) (k : Below w0.heap.size w0 w1) : RO e w0 w ov cvs c := ⟨h.o.up k, h.len, h.rows⟩
theorem RO.push {e : Nat} {w0 w w' : World} {ov ov' cv : Value} {c : List (List Int)} {cvs : List Value} {xs : List Int} (h : RO e w0 w ov cvs c) (hk : SlI w cv xs) (hne : 0 < xs.length → ∀ i, cv.ownBlock = some i → ov.ownBlock ≠ some i)
    (hO : OI e (fun v : Value => v) w0 w' ov' (cvs ++ [cv])) (k : Kp (fun i => ov.ownBlock = some i) w w') (hn : ∀ i, ov'.ownBlock = some i → ov.ownBlock = some i ∨ w.heap.size ≤ i) : RO e w0 w' ov' (cvs ++ [cv]) (c ++ [xs]) := by
  have hl := h.len
  refine ⟨hO, by simp [hl], fun j hj => ?_⟩
  have hgen : ∀ (v : Value) (ys : List Int), SlI w v ys → (0 < ys.length → ∀ i, v.ownBlock = some i → ov.ownBlock ≠ some i) → SlI w' v ys ∧ (0 < ys.length → ∀ i, v.ownBlock = some i → ov'.ownBlock ≠ some i) := fun v ys hv hs => by
    refine ⟨sl_kp' hv k (fun hp i hi e => hs hp i hi e), fun hp i hi e => ?_⟩
    rcases hn i e with e2 | e2
    · exact hs hp i hi e2
    · have := Sl.lt hv hp hi; omega
  rw [List.length_append, List.length_singleton] at hj
  by_cases e : j = c.length
  · subst e
    rw [appV_last hl.symm, appV_last rfl]
    exact hgen cv xs hk hne
  · rw [appV_getD (by omega), appV_getD (by omega)]
    exact hgen _ _ (h.rows j (by omega)).1 (h.rows j (by omega)).2
theorem RO.rowsM {e : Nat} {w0 w : World} {ov : Value} {c : List (List Int)} {cvs : List Value} (h : RO e w0 w ov cvs c) : RowsM w ov c := by
  obtain ⟨hl, A, k, rfl, hc⟩ := h.o.sl (z := undef)
  refine ⟨by rw [← h.len]; exact hl, A, k, cvs, by rw [h.len], fun hp => ?_, fun j hj => (h.rows j hj).1⟩
  obtain ⟨a, rfl, hcc⟩ := hc (by rw [h.len]; exact hp)
  exact ⟨a, rfl, fun j hj => hcc j (by rw [h.len]; exact hj)⟩
/-- Lists of lists that come in. -/
def ArgR (w : World) (v : Value) (c : List (List Int)) : Prop :=
  RowsM w v c ∧ ∀ i : Int, 0 ≤ i → i < c.length → ∃ a k A' k', v = .slice (some a) c.length k ∧ SlI w (.slice A' (row c i).length k') (row c i) ∧ (row c i).length ≤ k' ∧ ∀ w', Below w.heap.size w w' → w'.cell? (a.add (i.toNat * 1)) = some (.slice A' (row c i).length k')
section
variable {P : Program} [hT : Tab P] {n : Nat} {ds : List Deferred} {Φ : Post} {k : List It} {ρ : E} {w : World} {all : Array Oper} {l : List Oper} {md : Option (List Oper)}
theorem z_R {o1 o2 : Oper} {d1 d2 t s t' : Nat} {x y : Operand} {v : Value} {i : Int} {c : List (List Int)} {w0 : World} {c1 c2 : Bool} (h1 : o1.op = .indexAddr t x y := by exact rfl) (hd1 : o1.dst = some d1 := by exact rfl) (hg1 : gdB all ρ o1.guard = some c1 := by exact rfl) (hc1 : c1 = true := by exact rfl) (h2 : o2.op = .load t' (.tmp d1) := by exact rfl) (hd2 : o2.dst = some d2 := by exact rfl) (hg2 : ∀ p, gdB all ((d1, .pointer p) :: ρ) o2.guard = some c2 := by exact fun _ => rfl) (hc2 : c2 = true := by exact rfl)
    (ht : tyD P t = some (.slice s) := by exact rfl) (hs : tyS P s = some 1 := by exact rfl) (ha : tyAgg P t' = some false := by exact rfl) (hx : ev ρ x = some v := by exact rfl) (hy : ev ρ y = some (.int .i64 i) := by exact rfl) (htr : ArgR w0 v c := by assumption) (hbel : Below w0.heap.size w0 w := by first | assumption | exact Below.refl _ _) (h0 : 0 ≤ i := by omega) (hi : i < c.length := by omega)
    (kk : ∀ A m p, SlI w0 (.slice A (row c i).length m) (row c i) → (row c i).length ≤ m → Ops md P n ds all k Φ l ((d2, .slice A (row c i).length m) :: (d1, p) :: ρ) w) : Ops md P n ds all k Φ (o1 :: o2 :: l) ρ w := by
  obtain ⟨a, m, A', m', rfl, hsl, hcap, hcell⟩ := htr.2 i h0 hi
  exact Ops.evG hd1 hg1 hc1 (EV.idx h1 ht hs hx hy h0 hi) (Ops.evG hd2 (hg2 _) hc2 (EV.ld h2 ha (ev_top _ _ _) (hcell w hbel)) (kk _ _ _ hsl hcap))
end
end Go.Proofs.Ytehjmakiljhjdaa.VW
/- Numbers as sets of bits; maps that may be nil. -/
namespace Go.Proofs.Ytehjmakiljhjdaa.VW
open Go Go.RowKit
theorem wrap_nat {x : Nat} (h : x < 4611686018427387904) : IntKind.i64.wrap (x : Int) = x := wrap_in (by unfold inR; omega)
theorem m_shr {t j : Nat} (hj : j ≤ 60) : bsh .shr .i64 (t : Int) (j : Int) = some ((t / 2 ^ j : Nat) : Int) := by
  have h0 : ¬ ((j : Int) < 0) := by omega
  have h1 : min ((j : Int).toNat) (IntKind.bits .i64) = j := by simp [IntKind.bits]; omega
  simp only [bsh, h0, if_false, h1]
  congr 1
  have h2 : (2 : Int) ^ j = ((2 ^ j : Nat) : Int) := by rw [Int.natCast_pow]; rfl
  rw [h2, Int.fdiv_eq_ediv_of_nonneg _ (Int.natCast_nonneg _), Int.natCast_ediv]
theorem m_shl {j : Nat} (hj : j ≤ 60) : bsh .shl .i64 1 (j : Int) = some ((2 ^ j : Nat) : Int) := by
  have h0 : ¬ ((j : Int) < 0) := by omega
  have h1 : min ((j : Int).toNat) (IntKind.bits .i64) = j := by simp [IntKind.bits]; omega
  simp only [bsh, h0, if_false, h1]
  congr 1
  have h2 : (1 : Int) * 2 ^ j = ((2 ^ j : Nat) : Int) := by rw [Int.natCast_pow, Int.one_mul]; rfl
  rw [h2]
  refine wrap_nat ?_
  calc 2 ^ j ≤ 2 ^ 60 := Nat.pow_le_pow_right (by omega) hj
    _ < _ := by decide
theorem m_and1 {t : Nat} (ht : t < 4611686018427387904) : bw .and .i64 (t : Int) 1 = some ((t % 2 : Nat) : Int) := by
  simp only [bw]
  congr 1
  have h1 : (BitVec.ofInt (IntKind.bits .i64) (t : Int) &&& BitVec.ofInt (IntKind.bits .i64) 1).toNat = t % 2 := by
    have e1 : (BitVec.ofInt (IntKind.bits .i64) (t : Int)).toNat = t := by show (BitVec.ofInt 64 (t : Int)).toNat = t; simp [BitVec.toNat_ofInt]; omega
    have e2 : (BitVec.ofInt (IntKind.bits .i64) 1).toNat = 1 := by decide
    rw [BitVec.toNat_and, e1, e2, Nat.and_one_is_mod]
  rw [h1]
  exact wrap_nat (by omega)
theorem m_or {t s : Nat} (ht : t < 2 ^ 60) (hs : s < 2 ^ 60) : bw .or .i64 (t : Int) (s : Int) = some ((t ||| s : Nat) : Int) := by
  simp only [bw]
  congr 1
  have h1 : (BitVec.ofInt (IntKind.bits .i64) (t : Int) ||| BitVec.ofInt (IntKind.bits .i64) (s : Int)).toNat = t ||| s := by
    have e1 : ∀ t : Nat, t < 2 ^ 60 → (BitVec.ofInt (IntKind.bits .i64) (t : Int)).toNat = t := fun t ht => by show (BitVec.ofInt 64 (t : Int)).toNat = t; simp [BitVec.toNat_ofInt]; omega
    rw [BitVec.toNat_or, e1 t ht, e1 s hs]
  rw [h1]
  refine wrap_nat ?_
  have := Nat.or_lt_two_pow ht hs
  omega
theorem bit_iff {t j : Nat} : (((t / 2 ^ j % 2 : Nat) : Int) == 1) = t.testBit j := by
  rw [Nat.testBit_eq_decide_div_mod_eq, Bool.eq_iff_iff, beq_iff_eq, decide_eq_true_iff]
  omega
/-- A map from ints to true that may be nil. -/
def OutM (w : World) (ov : Value) (g : Int → Bool) (b : Nat) : Prop := (ov = .map none ∧ g = fun _ => false) ∨ ∃ r, ov = .map (some r) ∧ r ≠ b ∧ MapB w r g
theorem OutM.kp {w w' : World} {ov : Value} {g : Int → Bool} {b : Nat} {S : Nat → Prop} (h : OutM w ov g b) (k : Kp S w w') (hs : ∀ r, ov = .map (some r) → ¬ S r) : OutM w' ov g b := by
  rcases h with h | ⟨r, e, hn, hm⟩
  · exact .inl h
  · exact .inr ⟨r, e, hn, hm.kp k (hs r e)⟩
theorem OutM.kpb {w w' : World} {ov : Value} {g : Int → Bool} {b : Nat} (h : OutM w ov g b) (k : Kp (fun i => i = b) w w') : OutM w' ov g b := by
  rcases h with h | ⟨r, e, hn, hm⟩
  · exact .inl h
  · exact .inr ⟨r, e, hn, hm.kp k hn⟩
section
variable {P : Program} [hT : Tab P] {n : Nat} {ds : List Deferred} {Φ : Post} {k : List It} {ρ : E} {w : World} {all : Array Oper} {l : List Oper} {md : Option (List Oper)}
theorem Ops.lookO {o : Oper} {d t kt et b : Nat} {x y : Operand} {i : Int} {ov : Value} {g : Int → Bool} (ho : o.op = .lookup t x y false) (hd : o.dst = some d) (hg : o.guard = none)
    (ht : tyD P t = some (.map kt et)) (hkt : tyD P kt = some (.int .i64)) (hz : tyZ P et = some (.bool false)) (hx : ev ρ x = some ov) (hy : ev ρ y = some (.int .i64 i)) (hm : OutM w ov g b)
    (hk : Ops md P n ds all k Φ l ((d, .bool (g i)) :: ρ) w) : Ops md P n ds all k Φ (o :: l) ρ w := by
  rcases hm with ⟨rfl, rfl⟩ | ⟨r, rfl, _, hm⟩
  · refine Ops.valS hd hg (fun a hr => ?_) hk
    have h3 := run_findKey_int (P := P) (w := w) (kt := kt) (es := []) (x := i) (r := none) (td_int (tyD_ok hkt)) rfl
    simp [execOp, ho, hr.ev hx, hr.ev hy, Instr.lookup, run_und (td_map (tyD_ok ht)), run_checkKey_int (td_int (tyD_ok hkt)), h3, run_zeroV hz]
  · exact Ops.look ho hd hg ht hkt hz hx hy hm hk
end
end Go.Proofs.Ytehjmakiljhjdaa.VW
/- Rules with standing arguments: bits, pairs, fields of a block. -/
namespace Go.Proofs.Ytehjmakiljhjdaa.VW
open Go Go.RowKit
section
variable {P : Program} [hT : Tab P] {n : Nat} {ds : List Deferred} {Φ : Post} {k : List It} {ρ : E} {w : World} {all : Array Oper} {l : List Oper} {md : Option (List Oper)} {s : Nat} {F : World → Prop} {π : List (Nat × Nat)} {L : List Bool}
theorem z_B {o : Oper} {c : Bool} {d t : Nat} {x y : Operand} {u v z0 z1 : Value} (hd : o.dst = some d := by exact rfl) (hg : gdB all ρ o.guard = some c := by exact rfl) (hgc : c = true := by exact rfl) (ho : o.op = .build t #[(0, x), (1, y)] := by exact rfl)
    (ht : tyD P t = some (.struct [(0, 1), (1, 1)]) := by exact rfl) (hz : tyZ P t = some (.agg #[z0, z1]) := by exact rfl) (hx : ev ρ x = some u := by exact rfl) (hy : ev ρ y = some v := by exact rfl) (h1 : u.oneCell' = true := by exact rfl) (h2 : v.oneCell' = true := by exact rfl)
    (kk : Ops md P n ds all k Φ l ((d, .agg #[u, v]) :: ρ) w) : Ops md P n ds all k Φ (o :: l) ρ w := Ops.evG hd hg hgc (EV.bld2 ho ht hz hx hy h1 h2) kk
theorem z_S {o : Oper} {c : Bool} {d j t t' : Nat} {x y : Operand} (hd : o.dst = some d := by exact rfl) (hg : gdB all ρ o.guard = some c := by exact rfl) (hgc : c = true := by exact rfl) (ho : o.op = .binOp .shl t x y t' := by exact rfl) (hx : ev ρ x = some (.int .i64 1) := by exact rfl) (hy : ev ρ y = some (.int .i64 (j : Int)) := by exact rfl) (hj : j ≤ 60 := by omega)
    (kk : Ops md P n ds all k Φ l ((d, .int .i64 ((2 ^ j : Nat) : Int)) :: ρ) w) : Ops md P n ds all k Φ (o :: l) ρ w := Ops.evG hd hg hgc (EV.bsh ho hx hy (m_shl hj)) kk
theorem z_Q {o : Oper} {c : Bool} {d j m t t' : Nat} {x y : Operand} (hd : o.dst = some d := by exact rfl) (hg : gdB all ρ o.guard = some c := by exact rfl) (hgc : c = true := by exact rfl) (ho : o.op = .binOp .shr t x y t' := by exact rfl) (hx : ev ρ x = some (.int .i64 (m : Int)) := by exact rfl) (hy : ev ρ y = some (.int .i64 (j : Int)) := by exact rfl) (hj : j ≤ 60 := by omega)
    (kk : Ops md P n ds all k Φ l ((d, .int .i64 ((m / 2 ^ j : Nat) : Int)) :: ρ) w) : Ops md P n ds all k Φ (o :: l) ρ w := Ops.evG hd hg hgc (EV.bsh ho hx hy (m_shr hj)) kk
theorem z_1 {o : Oper} {c : Bool} {d m t t' : Nat} {x y : Operand} (hd : o.dst = some d := by exact rfl) (hg : gdB all ρ o.guard = some c := by exact rfl) (hgc : c = true := by exact rfl) (ho : o.op = .binOp .and t x y t' := by exact rfl) (hx : ev ρ x = some (.int .i64 (m : Int)) := by exact rfl) (hy : ev ρ y = some (.int .i64 1) := by exact rfl) (hm : m < 4611686018427387904 := by omega)
    (kk : Ops md P n ds all k Φ l ((d, .int .i64 ((m % 2 : Nat) : Int)) :: ρ) w) : Ops md P n ds all k Φ (o :: l) ρ w := Ops.evG hd hg hgc (EV.bw ho hx hy (m_and1 hm)) kk
theorem z_O {o : Oper} {c : Bool} {d a b t t' : Nat} {x y : Operand} (hd : o.dst = some d := by exact rfl) (hg : gdB all ρ o.guard = some c := by exact rfl) (hgc : c = true := by exact rfl) (ho : o.op = .binOp .or t x y t' := by exact rfl) (hx : ev ρ x = some (.int .i64 (a : Int)) := by exact rfl) (hy : ev ρ y = some (.int .i64 (b : Int)) := by exact rfl) (ha : a < 1152921504606846976 := by omega) (hb : b < 1152921504606846976 := by omega)
    (kk : Ops md P n ds all k Φ l ((d, .int .i64 ((a ||| b : Nat) : Int)) :: ρ) w) : Ops md P n ds all k Φ (o :: l) ρ w := Ops.evG hd hg hgc (EV.bw ho hx hy (m_or (by simpa using ha) (by simpa using hb))) kk
/-- A pair out of a block. -/
theorem z_2 {o : Oper} {d t b t' : Nat} {x : Operand} {cs : Array Value} {v u : Value} {w0 : World} (hd : o.dst = some d := by exact rfl) (hg : o.guard = none := by exact rfl) (ho : o.op = .load t x := by exact rfl)
    (ht : tyAgg P t = some true := by exact rfl) (hs : tyS P t = some 2 := by exact rfl) (hx : ev ρ x = some (.pointer (some ⟨b, 0, none⟩)) := by exact rfl) (hb : Blk w0 b cs t' := by assumption) (hbel : Below w0.heap.size w0 w := by first | assumption | exact Below.refl _ _) (h0 : nth cs.toList 0 = some v := by exact rfl) (h1 : nth cs.toList 1 = some u := by exact rfl)
    (kk : Ops md P n ds all k Φ l ((d, .agg #[v, u]) :: ρ) w) : Ops md P n ds all k Φ (o :: l) ρ w := by
  have hb' := hb.kp (Kp.of_below (S := fun _ => False) hbel) (fun e => e)
  rw [nth_eq, Array.getElem?_toList] at h0 h1
  exact Ops.ld2 ho hd hg ht hs hx (hb'.cell h0) (by rw [add_lit]; exact hb'.cell h1) kk
theorem x_P {i d t j off sz b q : Nat} {o : Oper} {x : Operand} {c : Bool} (h1 : all[i]? = some o := by exact rfl) (hd : o.dst = some d := by exact rfl) (hg : gdB all ρ o.guard = some c := by exact rfl) (hgc : c = true := by exact rfl) (ho : o.op = .fieldAddr t x j := by exact rfl) (ht : fieldOff P t j = some (off, sz + 1) := by exact rfl) (hx : ev ρ x = some (.pointer (some ⟨b, q, none⟩)) := by exact rfl)
    (kk : OrdA P n ds all k Φ s F π (L.set i true) ((d, .pointer (some ⟨b, q + off, none⟩)) :: ρ)) : OrdA P n ds all k Φ s F ((i, 1) :: π) L ρ := by
  refine OrdA.pure h1 hd hg hgc (fun _ => ?_) kk
  rw [← add_lit]
  exact EV.fld ho ht hx
theorem x_B {i d t : Nat} {o : Oper} {x y : Operand} {c : Bool} {u v z0 z1 : Value} (h0 : all[i]? = some o := by exact rfl) (hd : o.dst = some d := by exact rfl) (hg : gdB all ρ o.guard = some c := by exact rfl) (hgc : c = true := by exact rfl) (ho : o.op = .build t #[(0, x), (1, y)] := by exact rfl)
    (ht : tyD P t = some (.struct [(0, 1), (1, 1)]) := by exact rfl) (hz : tyZ P t = some (.agg #[z0, z1]) := by exact rfl) (hx : ev ρ x = some u := by exact rfl) (hy : ev ρ y = some v := by exact rfl) (h1 : u.oneCell' = true := by exact rfl) (h2 : v.oneCell' = true := by exact rfl)
    (kk : OrdA P n ds all k Φ s F π (L.set i true) ((d, .agg #[u, v]) :: ρ)) : OrdA P n ds all k Φ s F ((i, 1) :: π) L ρ := OrdA.pure h0 hd hg hgc (fun _ => EV.bld2 ho ht hz hx hy h1 h2) kk
theorem x_S {i d j t t' : Nat} {o : Oper} {x y : Operand} {c : Bool} (h0 : all[i]? = some o := by exact rfl) (hd : o.dst = some d := by exact rfl) (hg : gdB all ρ o.guard = some c := by exact rfl) (hgc : c = true := by exact rfl) (ho : o.op = .binOp .shl t x y t' := by exact rfl) (hx : ev ρ x = some (.int .i64 1) := by exact rfl) (hy : ev ρ y = some (.int .i64 (j : Int)) := by exact rfl) (hj : j ≤ 60 := by omega)
    (kk : OrdA P n ds all k Φ s F π (L.set i true) ((d, .int .i64 ((2 ^ j : Nat) : Int)) :: ρ)) : OrdA P n ds all k Φ s F ((i, 1) :: π) L ρ := OrdA.pure h0 hd hg hgc (fun _ => EV.bsh ho hx hy (m_shl hj)) kk
theorem x_O {i d a b t t' : Nat} {o : Oper} {x y : Operand} {c : Bool} (h0 : all[i]? = some o := by exact rfl) (hd : o.dst = some d := by exact rfl) (hg : gdB all ρ o.guard = some c := by exact rfl) (hgc : c = true := by exact rfl) (ho : o.op = .binOp .or t x y t' := by exact rfl) (hx : ev ρ x = some (.int .i64 (a : Int)) := by exact rfl) (hy : ev ρ y = some (.int .i64 (b : Int)) := by exact rfl) (ha : a < 1152921504606846976 := by omega) (hb : b < 1152921504606846976 := by omega)
    (kk : OrdA P n ds all k Φ s F π (L.set i true) ((d, .int .i64 ((a ||| b : Nat) : Int)) :: ρ)) : OrdA P n ds all k Φ s F ((i, 1) :: π) L ρ := OrdA.pure h0 hd hg hgc (fun _ => EV.bw ho hx hy (m_or (by simpa using ha) (by simpa using hb))) kk
end
end Go.Proofs.Ytehjmakiljhjdaa.VW
/- Arrays in blocks of the call's own; the rules of V30 in drawn regions with effects. -/
namespace Go.Proofs.Ytehjmakiljhjdaa.VW
open Go Go.RowKit
section
variable {P : Program} [hT : Tab P] {n : Nat} {ds : List Deferred} {Φ : Post} {k : List It} {ρ : E} {w : World} {all : Array Oper} {l : List Oper} {md : Option (List Oper)} {s : Nat} {F : World → Prop} {π : List (Nat × Nat)} {L : List Bool}
theorem y_P {i d t j off sz b q : Nat} {o : Oper} {x : Operand} {c : Bool} (h1 : all[i]? = some o := by exact rfl) (hd : o.dst = some d := by exact rfl) (hg : gdB all ρ o.guard = some c := by exact rfl) (hgc : c = true := by exact rfl) (ho : o.op = .fieldAddr t x j := by exact rfl) (ht : fieldOff P t j = some (off, sz + 1) := by exact rfl) (hx : ev ρ x = some (.pointer (some ⟨b, q, none⟩)) := by exact rfl) (hΦ : ∀ c ρ w, ¬ Φ (.panic c) ρ w := by exact fun _ _ _ h => h)
    (kk : VW.Ord P n ds all k Φ s F π (L.set i true) ((d, .pointer (some ⟨b, q + off, none⟩)) :: ρ) w) : VW.Ord P n ds all k Φ s F ((i, 1) :: π) L ρ w := by
  refine VW.Ord.pure h1 hd hg hgc hΦ (fun _ => ?_) kk
  rw [← add_lit]
  exact EV.fld ho ht hx
theorem y_B {i d t : Nat} {o : Oper} {x y : Operand} {c : Bool} {u v z0 z1 : Value} (h0 : all[i]? = some o := by exact rfl) (hd : o.dst = some d := by exact rfl) (hg : gdB all ρ o.guard = some c := by exact rfl) (hgc : c = true := by exact rfl) (ho : o.op = .build t #[(0, x), (1, y)] := by exact rfl)
    (ht : tyD P t = some (.struct [(0, 1), (1, 1)]) := by exact rfl) (hz : tyZ P t = some (.agg #[z0, z1]) := by exact rfl) (hx : ev ρ x = some u := by exact rfl) (hy : ev ρ y = some v := by exact rfl) (h1 : u.oneCell' = true := by exact rfl) (h2 : v.oneCell' = true := by exact rfl) (hΦ : ∀ c ρ w, ¬ Φ (.panic c) ρ w := by exact fun _ _ _ h => h)
    (kk : VW.Ord P n ds all k Φ s F π (L.set i true) ((d, .agg #[u, v]) :: ρ) w) : VW.Ord P n ds all k Φ s F ((i, 1) :: π) L ρ w := VW.Ord.pure h0 hd hg hgc hΦ (fun _ => EV.bld2 ho ht hz hx hy h1 h2) kk
theorem y_S {i d j t t' : Nat} {o : Oper} {x y : Operand} {c : Bool} (h0 : all[i]? = some o := by exact rfl) (hd : o.dst = some d := by exact rfl) (hg : gdB all ρ o.guard = some c := by exact rfl) (hgc : c = true := by exact rfl) (ho : o.op = .binOp .shl t x y t' := by exact rfl) (hx : ev ρ x = some (.int .i64 1) := by exact rfl) (hy : ev ρ y = some (.int .i64 (j : Int)) := by exact rfl) (hj : j ≤ 60 := by omega) (hΦ : ∀ c ρ w, ¬ Φ (.panic c) ρ w := by exact fun _ _ _ h => h)
    (kk : VW.Ord P n ds all k Φ s F π (L.set i true) ((d, .int .i64 ((2 ^ j : Nat) : Int)) :: ρ) w) : VW.Ord P n ds all k Φ s F ((i, 1) :: π) L ρ w := VW.Ord.pure h0 hd hg hgc hΦ (fun _ => EV.bsh ho hx hy (m_shl hj)) kk
theorem y_O {i d a b t t' : Nat} {o : Oper} {x y : Operand} {c : Bool} (h0 : all[i]? = some o := by exact rfl) (hd : o.dst = some d := by exact rfl) (hg : gdB all ρ o.guard = some c := by exact rfl) (hgc : c = true := by exact rfl) (ho : o.op = .binOp .or t x y t' := by exact rfl) (hx : ev ρ x = some (.int .i64 (a : Int)) := by exact rfl) (hy : ev ρ y = some (.int .i64 (b : Int)) := by exact rfl) (ha : a < 1152921504606846976 := by omega) (hb : b < 1152921504606846976 := by omega) (hΦ : ∀ c ρ w, ¬ Φ (.panic c) ρ w := by exact fun _ _ _ h => h)
    (kk : VW.Ord P n ds all k Φ s F π (L.set i true) ((d, .int .i64 ((a ||| b : Nat) : Int)) :: ρ) w) : VW.Ord P n ds all k Φ s F ((i, 1) :: π) L ρ w := VW.Ord.pure h0 hd hg hgc hΦ (fun _ => EV.bw ho hx hy (m_or (by simpa using ha) (by simpa using hb))) kk
theorem y_D {i d t b q t' : Nat} {o : Oper} {x : Operand} {cs : Array Value} {v : Value} {w0 : World} {c : Bool} (h1 : all[i]? = some o := by exact rfl) (ho : o.op = .load t x := by exact rfl) (hd : o.dst = some d := by exact rfl) (hg : gdB all ρ o.guard = some c := by exact rfl) (hgc : c = true := by exact rfl)
    (ht : tyAgg P t = some false := by exact rfl) (hx : ev ρ x = some (.pointer (some ⟨b, q, none⟩)) := by exact rfl) (hb : Blk w0 b cs t' := by assumption) (hF : ∀ w, F w → Below w0.heap.size w0 w := by first | exact fun _ h => h | (intro _ h; exact Below.via (by assumption) h)) (hi : nth cs.toList q = some v := by exact rfl) (hΦ : ∀ c ρ w, ¬ Φ (.panic c) ρ w := by exact fun _ _ _ h => h)
    (kk : VW.Ord P n ds all k Φ s F π (L.set i true) ((d, v) :: ρ) w) : VW.Ord P n ds all k Φ s F ((i, 2) :: π) L ρ w :=
  VW.Ord.read' h1 hd hg hgc hΦ (fun w hFw => EV.ld ho ht hx ((hb.kp (Kp.of_below (S := fun _ => False) (hF w hFw)) (fun e => e)).cell (by rw [nth_eq, Array.getElem?_toList] at hi; exact hi))) kk
/-- An array or a struct of nothing but zeros. -/
theorem EV.bld0 {o : Oper} {t e sz len : Nat} {z : Value} (ho : o.op = .build t #[]) (ht : tyD P t = some (.array len e)) (hs : tyS P e = some sz) (hz : tyZ P t = some z) : EV P n ρ w o (.agg z.cells) := by
  intro a hr
  simp [execOp, ho, Instr.build, run_zeroV hz, run_und (td_array (tyD_ok ht)), run_sizeOf hs, Instr.fill]
/-- The place of an element of an array. -/
theorem EV.idxP {o : Oper} {t e sz len : Nat} {x y : Operand} {A : Addr} {i : Int} (ho : o.op = .indexAddr t x y)
    (ht : tyD P t = some (.array len e)) (hs : tyS P e = some sz) (hx : ev ρ x = some (.pointer (some A))) (hy : ev ρ y = some (.int .i64 i)) (h0 : 0 ≤ i) (h1 : i < len) : EV P n ρ w o (.pointer (some (A.add (i.toNat * sz)))) := by
  intro a hr
  have hu := td_array (tyD_ok ht)
  simp [execOp, ho, Instr.indexAt, asIntOf, hr.ev hx, hr.ev hy, run_und hu, run_sizeOf hs, h0, h1, Instr.sureAddr]
/-- A store of any size into a block of the call's own. -/
theorem run_storeCells {b t' : Nat} : ∀ (vs done old : List Value) (w : World), Blk w b (done ++ old).toArray t' → vs.length = old.length → (∀ v ∈ vs, v.oneCell' = true) → ∃ w', (storeCells ⟨b, 0, none⟩ vs done.length).run P w = .ok () w' ∧ Upd w w' b (done ++ vs).toArray t'
  | [], done, old, w, hb, hl, _ => by
    have : old = [] := List.eq_nil_of_length_eq_zero (by simpa using hl.symm)
    subst this
    exact ⟨w, by simp [storeCells], hb, Kp.refl _ _, rfl⟩
  | v :: vs, done, [], w, hb, hl, _ => by simp at hl
  | v :: vs, done, c :: old, w, hb, hl, h1 => by
    have hc : w.cell? ⟨b, done.length, none⟩ = some c := hb.cell (by simp)
    have hfz : w.frozen? ⟨b, done.length, none⟩ = false := by unfold Blk at hb; simp [World.frozen?, hb]
    have hr := run_store (P := P) (h1 v (by simp)) hc hfz
    have hu := upd_set hb done.length v
    have hset : (done ++ c :: old).toArray.setIfInBounds done.length v = ((done ++ [v]) ++ old).toArray := by
      apply Array.toList_inj.1
      simp
    rw [hset] at hu
    obtain ⟨w', hr', hu'⟩ := run_storeCells vs (done ++ [v]) old _ hu.blk (by simpa using hl) (fun u hu => h1 u (by simp [hu]))
    refine ⟨w', ?_, ?_, (hu.kp.trans hu'.kp).mono (fun i _ e => by rcases e with e | e <;> exact e), hu'.size.trans hu.size⟩
    · rw [List.length_append, List.length_singleton] at hr'
      unfold storeCells
      simp [add_lit, hr, hr']
    · have := hu'.blk
      rwa [List.append_assoc, List.singleton_append] at this
theorem Ops.stN {o : Oper} {t b t' : Nat} {x y : Operand} {vs cs : List Value} (ho : o.op = .store t x y) (hd : o.dst = none) (hg : o.guard = none)
    (hs : tyS P t = some cs.length) (hx : ev ρ x = some (.pointer (some ⟨b, 0, none⟩))) (hy : ev ρ y = some (.agg vs.toArray)) (h1 : ∀ v ∈ vs, v.oneCell' = true) (hl : vs.length = cs.length) (hb : Blk w b cs.toArray t')
    (hk : ∀ w', Upd w w' b vs.toArray t' → Ops none P n ds all k Φ l ρ w') : Ops none P n ds all k Φ (o :: l) ρ w := by
  obtain ⟨w', hr', hu⟩ := run_storeCells (P := P) vs [] cs w (by simpa using hb) hl h1
  refine Ops.unit hg hd (fun a hr => ?_) (hk w' (by simpa using hu))
  simp only [execOp, ho, hr.ev hx, hr.ev hy]
  simp [Instr.storeAt, Instr.sureAddr, storeVar, run_sizeOf hs, Value.cells, hl]
  simp at hr'
  rw [hr']
  rfl
theorem run_loadCells {b t' : Nat} : ∀ (rest done : List Value), Blk w b (done ++ rest).toArray t' → (loadCellsFrom ⟨b, 0, none⟩ done.length rest.length done.toArray).run P w = .ok (done ++ rest).toArray w
  | [], done, hb => by simp [loadCellsFrom]
  | v :: rest, done, hb => by
    have hc : w.cell? ⟨b, done.length, none⟩ = some v := hb.cell (by simp)
    have ih := run_loadCells rest (done ++ [v]) (by simpa using hb)
    rw [List.length_append, List.length_singleton] at ih
    simp only [List.length_cons, loadCellsFrom]
    simp [add_lit, load, Sem.run, hc]
    simpa [Sem.run] using ih
/-- The whole of a block of the call's own. -/
theorem EV.ldN {o : Oper} {t b t' : Nat} {x : Operand} {cs : List Value} (ho : o.op = .load t x) (ht : tyAgg P t = some true) (hs : tyS P t = some cs.length) (hx : ev ρ x = some (.pointer (some ⟨b, 0, none⟩))) (hb : Blk w b cs.toArray t') : EV P n ρ w o (.agg cs.toArray) := by
  intro a hr
  have h := run_loadCells (P := P) cs [] (by simpa using hb)
  simp at h
  simp [execOp, ho, Instr.loadAt, Instr.sureAddr, hr.ev hx, loadVar, run_isAgg ht, run_sizeOf hs, loadCells, h]
omit n in
/-- A result of many cells that lies in memory. -/
theorem W.fretCN {fn : Func} {R : Value → World → Prop} {a t b t' : Nat} {cs : List Value} (hres : fn.results = #[.cell a t]) (hl : look ρ a = some (.pointer (some ⟨b, 0, none⟩))) (hs : tyS P t = some cs.length) (hg : tyAgg P t = some true)
    (hb : Blk w b cs.toArray t') (hR : R (.agg cs.toArray) w) : W P fn.ntmps ds (.code .ret :: k) (Fin P fn R) ρ w := by
  refine W.ret ⟨_, fun act hr => ?_, hR⟩
  have h := run_loadCells (P := P) cs [] (by simpa using hb)
  simp at h
  have hsl := hr.slot a _ hl
  rw [Array.getD_eq_getD_getElem?] at hsl
  simp [results, hres, hsl, asAddr, loadVar, run_isAgg hg, run_sizeOf hs, loadCells, h]
end
end Go.Proofs.Ytehjmakiljhjdaa.VW
