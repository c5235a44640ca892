/- A part of the walk: what this seat's statements share. -/
import Derived.Test.YtcmjlmnfdncajaaGreatDoorZG3
import Derived.Test.YtcmjlmnfdncajaaGreatDoorZG2
import Derived.DeepKeys4
set_option linter.unusedVariables false
set_option linter.unusedSimpArgs false
set_option linter.unusedSectionVars false
/- int(uint(x) >> 1) -/
namespace Go.Proofs.YtcmjlmnfdncajaaGreatDoor.VW
open Go Go.RowKit
section
variable {P : Program} [hT : Tab P] {n : Nat} {ds : List Deferred} {Φ : Post} {k : List It} {ρ : E} {w : World} {all : Array Oper} {l : List Oper} {md : Option (List Oper)}
theorem wrapU64 {s : Nat} (h : s < 9223372036854775808) : IntKind.u64.wrap (s : Int) = s := by
  have : (s : Int) % 18446744073709551616 = s := by omega
  simp [IntKind.wrap, IntKind.bits, IntKind.signed, this]
theorem wrapI64 {s : Nat} (h : s < 9223372036854775808) : IntKind.i64.wrap (s : Int) = s := by
  have : (s : Int) % 18446744073709551616 = s := by omega
  simp [IntKind.wrap, IntKind.bits, IntKind.signed, this]
  omega
theorem Ops.half {o1 o2 o3 : Oper} {d1 d2 d3 s1 t1 t2 t2' s3 t3 : Nat} {x y : Operand} {s : Nat} (h1 : o1.op = .convert s1 t1 x) (hd1 : o1.dst = some d1) (hg1 : o1.guard = none) (e1 : tyD P s1 = some (.int .i64)) (e2 : tyD P t1 = some (.int .u64)) (hx : ev ρ x = some (.int .i64 (s : Int)))
    (h2 : o2.op = .binOp .shr t2 (.tmp d1) y t2') (hd2 : o2.dst = some d2) (hg2 : gdB all ((d1, .int .u64 (IntKind.u64.wrap (s : Int))) :: ρ) o2.guard = some true) (hy : ev ((d1, .int .u64 (IntKind.u64.wrap (s : Int))) :: ρ) y = some (.int .u64 1))
    (h3 : o3.op = .convert s3 t3 (.tmp d2)) (hd3 : o3.dst = some d3) (hg3 : o3.guard = none) (e3 : tyD P s3 = some (.int .u64)) (e4 : tyD P t3 = some (.int .i64)) (hs : s < 9223372036854775808)
    (hk : Ops md P n ds all k Φ l ((d3, .int .i64 ((s / 2 : Nat) : Int)) :: (d2, .int .u64 ((s / 2 : Nat) : Int)) :: (d1, .int .u64 (s : Int)) :: ρ) w) : Ops md P n ds all k Φ (o1 :: o2 :: o3 :: l) ρ w := by
  have w1 := wrapU64 hs
  rw [w1] at hg2 hy
  refine Ops.cv h1 hd1 hg1 e1 e2 hx ?_
  rw [w1]
  have w2 : Int.fdiv (s : Int) 2 = ((s / 2 : Nat) : Int) := by rw [Int.fdiv_eq_ediv_of_nonneg _ (by omega)]; rfl
  refine Ops.evG hd2 hg2 rfl (EV.bsh (v := ((s / 2 : Nat) : Int)) h2 (ev_top _ _ _) hy ?_) ?_
  · simp [bsh, IntKind.bits, w2]
  refine Ops.cv h3 hd3 hg3 e3 e4 (ev_top _ _ _) ?_
  rw [wrapI64 (by omega)]
  exact hk
end
end Go.Proofs.YtcmjlmnfdncajaaGreatDoor.VW
/- x == nil for slices; an empty literal; a field of an element written in a drawn region. -/
namespace Go.Proofs.YtcmjlmnfdncajaaGreatDoor.VW
open Go Go.RowKit
section
variable {P : Program} [hT : Tab P] {n : Nat} {ds : List Deferred} {Φ : Post} {k : List It} {ρ : E} {w : World} {all : Array Oper} {l : List Oper} {md : Option (List Oper)} {s : Nat} {F : World → Prop} {π : List (Nat × Nat)} {L : List Bool}
theorem EV.nilE {o : Oper} {t t' e m c : Nat} {x y : Operand} {A : Option Addr} (ho : o.op = .binOp .eql t x y t') (ht : tyD P t = some (.slice e)) (hx : ev ρ x = some (.slice A m c)) (hy : ev ρ y = some (.slice none 0 0)) : EV P n ρ w o (.bool A.isNone) := by
  intro a hr
  have hu := td_slice (tyD_ok ht)
  simp only [execOp, ho, hr.ev hx, hr.ev hy]
  have : (Op.equal t (.slice A m c) (.slice none 0 0)).run P w = .ok A.isNone w := by
    unfold Op.equal
    rw [show Op.maxDepth = 9999 + 1 from rfl]
    unfold Op.equalIn
    cases A <;> simp [run_und hu]
  simp [eqGuard, binOp, this]
/-- An empty literal. -/
theorem Ops.bs0 {o : Oper} {d t e sz : Nat} (ho : o.op = .buildSlice t 0 #[]) (hd : o.dst = some d) (hg : o.guard = none) (ht : tyD P t = some (.slice e)) (hs : tyS P e = some sz)
    (hk : ∀ w' r, Mk w w' r (.cells #[] e) → Ops none P n ds all k Φ l ((d, .slice (some ⟨r, 0, none⟩) 0 0) :: ρ) w') : Ops none P n ds all k Φ (o :: l) ρ w := by
  refine Ops.val hd hg (fun a hr => ?_) (hk _ _ (mk_alloc w _))
  have h0 : (Array.range 0 : Array Nat) = #[] := rfl
  simp [execOp, ho, Instr.buildSlice, run_und (td_slice (tyD_ok ht)), run_sizeOf hs, Instr.fill, newRow, newObj, Sem.run, h0]
theorem own_zero {w w' : World} {r e sz : Nat} (h : Mk w w' r (.cells #[] e)) : w'.ownsRow 0 e sz (.slice (some ⟨r, 0, none⟩) 0 0) 0 [] :=
  ⟨by simp, .inr ⟨r, 0, #[], rfl, Nat.zero_le _, h.at_, Nat.le_refl _, by simp [maxLen], by simp, by simp⟩⟩
/-- A struct of two fields of which the second one alone is given. -/
theorem EV.bldS {o : Oper} {t : Nat} {y : Operand} {v z0 z1 : Value} (ho : o.op = .build t #[(1, y)])
    (ht : tyD P t = some (.struct [(0, 1), (1, 1)])) (hz : tyZ P t = some (.agg #[z0, z1])) (hy : ev ρ y = some v) (h2 : v.oneCell' = true) : EV P n ρ w o (.agg #[z0, v]) := by
  intro a hr
  obtain ⟨gs, hu, hm⟩ := td_struct (tyD_ok ht)
  have hsz : ∃ f g, gs = #[f, g] ∧ f.offset = 0 ∧ g.offset = 1 ∧ ((P.info? f.type).map (·.size)).getD 0 = 1 ∧ ((P.info? g.type).map (·.size)).getD 0 = 1 := by
    obtain ⟨L⟩ := gs
    rcases L with _ | ⟨f, _ | ⟨g, _ | ⟨h, r⟩⟩⟩
    · simp at hm
    · simp at hm
    · simp at hm; exact ⟨f, g, rfl, hm.1.1, hm.2.1, hm.1.2, hm.2.2⟩
    · simp at hm
  obtain ⟨f, g, rfl, hf0, hg1, hfs, hgs⟩ := hsz
  have q1 : ∃ i, P.info? f.type = some i ∧ i.size = 1 := by
    cases hi : P.info? f.type with
    | none => rw [hi] at hfs; simp at hfs
    | some i => rw [hi] at hfs; exact ⟨i, rfl, by simpa using hfs⟩
  have q2 : ∃ i, P.info? g.type = some i ∧ i.size = 1 := by
    cases hi : P.info? g.type with
    | none => rw [hi] at hgs; simp at hgs
    | some i => rw [hi] at hgs; exact ⟨i, rfl, by simpa using hgs⟩
  obtain ⟨i1, e1, s1⟩ := q1
  obtain ⟨i2, e2, s2⟩ := q2
  have hcv : v.cells = #[v] := by cases v <;> simp_all [Value.oneCell', Value.cells]
  have hcz : (Value.agg #[z0, z1]).cells = #[z0, z1] := rfl
  simp only [execOp, ho]
  simp [Instr.build, hr.ev hy, run_zeroV hz, run_und hu, sizeOf, typeInfo, e1, e2, s1, s2, hf0, hg1, Instr.fill, hcv, hcz]
/-- A field of an element of a slice of the call's own, written at the end of a drawn region. -/
theorem Ord.wrF {i1 i2 i3 d1 d2 t s' t' f e sz off szf m : Nat} {o1 o2 o3 : Oper} {x y z : Operand} {v u : Value} {i : Int} {cs : List Value}
    (e1 : all[i1]? = some o1) (h1 : o1.op = .indexAddr t x y) (hd1 : o1.dst = some d1) (hg1 : gdB all ρ o1.guard = some true) (e2 : all[i2]? = some o2) (h2 : o2.op = .fieldAddr s' (.tmp d1) f) (hd2 : o2.dst = some d2) (hg2 : ∀ p, gdB all ((d1, .pointer p) :: ρ) o2.guard = some true)
    (e3 : all[i3]? = some o3) (h3 : o3.op = .store t' (.tmp d2) z) (hd3 : o3.dst = none) (hg3 : o3.guard = none)
    (ht : tyD P t = some (.slice e)) (hs : tyS P e = some sz) (hf : fieldOff P s' f = some (off, szf + 1)) (hlt : Nat.blt off sz = true) (hs' : tyS P t' = some 1) (hx : ev ρ x = some v) (hy : ev ρ y = some (.int .i64 i)) (hz : ∀ p q, ev ((d2, q) :: (d1, p) :: ρ) z = some u) (hu1 : u.oneCell' = true)
    (hown : w.ownsRow 0 e sz v m cs) (h0 : 0 ≤ i) (hi : i < m) (hΦ : ∀ c ρ w, (Φ (.panic c) ρ w → Φ (.panic c) [] w))
    (hk : ∀ w' p q, w'.ownsRow 0 e sz v m (cs.set (i.toNat * sz + off) u) → Kp (fun b => v.ownBlock = some b) w w' → w'.heap.size = w.heap.size → VW.Ord P n ds all k Φ 9999 (fun _ => True) π (((L.set i1 true).set i2 true).set i3 true) ((d2, q) :: (d1, p) :: ρ) w') : VW.Ord P n ds all k Φ 9999 (fun _ => True) ((i1, 1) :: (i2, 1) :: (i3, 0) :: π) L ρ w := by
  have hlt' : off < sz := by simpa using hlt
  obtain ⟨g, cap, cur, rfl, hb, hcs⟩ := own_blk hown (by omega)
  refine VW.Ord.pure e1 hd1 hg1 rfl hΦ (fun w => EV.idx h1 ht hs hx hy h0 hi) (VW.Ord.pure e2 hd2 (hg2 _) rfl hΦ (fun w => EV.fld h2 hf (ev_top _ _ _)) (VW.Ord.effT e3 ?_))
  rw [add_lit, add_lit, Nat.zero_add]
  have hbd := mul_lt (i := i.toNat) (m := m) (sz := sz) (off := off) (by omega) hlt'
  refine Ops.st h3 hd3 hg3 hs' (ev_top _ _ _) (hz _ _) hu1 hb (by omega) (fun w' hu => Ops.nil (W.endl (hk w' _ _ (own_set hown hb hu) ?_ hu.size)))
  exact hu.kp.mono (fun i _ e => by simp [Value.ownBlock, e])
end
end Go.Proofs.YtcmjlmnfdncajaaGreatDoor.VW
/- Maps from keys of the kit's kinds to ints. -/
namespace Go.Proofs.YtcmjlmnfdncajaaGreatDoor.VW
open Go Go.RowKit
def isKey (P : Program) (kt : Nat) (v : Value) : Prop := ∃ l, keyOf P kt v = some l
/-- Block b is a map in which f stands; keys are written by enc. -/
def MapK {κ : Type} (P : Program) (kt : Nat) (enc : κ → Value) (w : World) (b : Nat) (f : κ → Option Int) : Prop := ∃ (es : Array MapEntry) (c : Nat), w.heap[b]? = some (.map es c) ∧ (∀ e ∈ es.toList, isKey P kt e.key) ∧ (∀ e ∈ es.toList, ∃ p v, e.key = enc p ∧ e.val = .int .i64 v ∧ f p = some v) ∧ ∀ p v, f p = some v → ∃ e ∈ es.toList, e.key = enc p
theorem MapK.kp {κ : Type} {P : Program} {kt : Nat} {enc : κ → Value} {w w' : World} {b : Nat} {f : κ → Option Int} {S : Nat → Prop} (h : MapK P kt enc w b f) (k : Kp S w w') (hs : ¬ S b) : MapK P kt enc w' b f := by
  obtain ⟨es, c, hb, h1⟩ := h
  exact ⟨es, c, by rw [k.blk b (Array.getElem?_eq_some_iff.1 hb).1 hs]; exact hb, h1⟩
theorem MapK.lt {κ : Type} {P : Program} {kt : Nat} {enc : κ → Value} {w : World} {b : Nat} {f : κ → Option Int} (h : MapK P kt enc w b f) : b < w.heap.size := by
  obtain ⟨es, c, hb, _⟩ := h
  exact (Array.getElem?_eq_some_iff.1 hb).1
theorem MapK.below {κ : Type} {P : Program} {kt : Nat} {enc : κ → Value} {w w' : World} {b : Nat} {f : κ → Option Int} (h : MapK P kt enc w b f) (k : Below w.heap.size w w') : MapK P kt enc w' b f := h.kp (Kp.of_below (S := fun _ => False) k) (fun e => e)
section
variable {P : Program} [hT : Tab P] {n : Nat} {ds : List Deferred} {Φ : Post} {k : List It} {ρ : E} {w : World} {all : Array Oper} {l : List Oper} {md : Option (List Oper)}
theorem Ops.mkK {κ : Type} {enc : κ → Value} {kt : Nat} {o : Oper} {d t : Nat} (ho : o.op = .makeMap t none) (hd : o.dst = some d) (hg : o.guard = none)
    (hk : ∀ w' r, MapK P kt enc w' r (fun _ => none) → Kp (fun _ => False) w w' → r = w.heap.size → w'.heap.size = w.heap.size + 1 → Ops none P n ds all k Φ l ((d, .map (some r)) :: ρ) w') : Ops none P n ds all k Φ (o :: l) ρ w := by
  have hm := mk_alloc w (.map #[] 0)
  refine Ops.val hd hg (fun a hr => ?_) (hk _ _ ⟨#[], 0, hm.at_, by simp, by simp, by simp⟩ hm.kp rfl hm.size)
  have hm' : (Instr.makeMap t none).run P w = .ok (.map (some w.heap.size)) (w.alloc (.map #[] 0)) := rfl
  simp [execOp, ho, hm']
theorem run_lookK {κ : Type} {enc : κ → Value} {t kt et r : Nat} {p : κ} {f : κ → Option Int} (cok : Bool) (K : WideMaps.KeyLaw P kt) (hinj : ∀ a b, enc a = enc b → a = b) (hp : isKey P kt (enc p)) (ht : tyD P t = some (.map kt et)) (hz : tyZ P et = some (.int .i64 0)) (hm : MapK P kt enc w r f) :
    (Instr.lookup t (.map (some r)) (enc p) cok).run P w = .ok (if cok then .tuple #[.int .i64 ((f p).getD 0), .bool (f p).isSome] else .int .i64 ((f p).getD 0)) w := by
  obtain ⟨es, c, hb, h1, h2, h3⟩ := hm
  obtain ⟨lx, hlx⟩ := hp
  have hu := td_map (tyD_ok ht)
  have hck := fun em => K.check w em hlx
  rcases K.find w hlx es.toList h1 with ⟨hf, hne⟩ | ⟨j, e, hf, hj, he⟩
  · have hfp : f p = none := by
      cases hfp : f p with
      | none => rfl
      | some v => obtain ⟨e, he, hke⟩ := h3 p v hfp; exact absurd hke (hne e he)
    cases cok <;> simp [Instr.lookup, run_und hu, run_getObj_m hb, hck, hf, run_zeroV hz, hfp]
  · obtain ⟨q, v, e1, e2, e3⟩ := h2 e (List.mem_of_getElem? hj)
    have : q = p := hinj _ _ (by rw [← e1, he])
    subst this
    cases cok <;> simp [Instr.lookup, run_und hu, run_getObj_m hb, hck, hf, e2, e3]
/-- m[x] -/
theorem Ops.lookK {κ : Type} {enc : κ → Value} {o : Oper} {d t kt et r : Nat} {x y : Operand} {p : κ} {f : κ → Option Int} (K : WideMaps.KeyLaw P kt) (hinj : ∀ a b, enc a = enc b → a = b) (ho : o.op = .lookup t x y false) (hd : o.dst = some d) (hg : o.guard = none)
    (ht : tyD P t = some (.map kt et)) (hz : tyZ P et = some (.int .i64 0)) (hx : ev ρ x = some (.map (some r))) (hy : ev ρ y = some (enc p)) (hp : isKey P kt (enc p)) (hm : MapK P kt enc w r f)
    (hk : Ops md P n ds all k Φ l ((d, .int .i64 ((f p).getD 0)) :: ρ) w) : Ops md P n ds all k Φ (o :: l) ρ w := by
  refine Ops.valS hd hg (fun a hr => ?_) hk
  simp [execOp, ho, hr.ev hx, hr.ev hy, run_lookK false K hinj hp ht hz hm]
/-- v, ok := m[x] -/
theorem Ops.lookKk {κ : Type} {enc : κ → Value} {o : Oper} {d t kt et r : Nat} {x y : Operand} {p : κ} {f : κ → Option Int} (K : WideMaps.KeyLaw P kt) (hinj : ∀ a b, enc a = enc b → a = b) (ho : o.op = .lookup t x y true) (hd : o.dst = some d) (hg : o.guard = none)
    (ht : tyD P t = some (.map kt et)) (hz : tyZ P et = some (.int .i64 0)) (hx : ev ρ x = some (.map (some r))) (hy : ev ρ y = some (enc p)) (hp : isKey P kt (enc p)) (hm : MapK P kt enc w r f)
    (hk : Ops md P n ds all k Φ l ((d, .tuple #[.int .i64 ((f p).getD 0), .bool (f p).isSome]) :: ρ) w) : Ops md P n ds all k Φ (o :: l) ρ w := by
  refine Ops.valS hd hg (fun a hr => ?_) hk
  simp [execOp, ho, hr.ev hx, hr.ev hy, run_lookK true K hinj hp ht hz hm]
theorem run_putK {κ : Type} [DecidableEq κ] {enc : κ → Value} {t kt et r : Nat} {p : κ} {v : Int} {f : κ → Option Int} (K : WideMaps.KeyLaw P kt) (hinj : ∀ a b, enc a = enc b → a = b) (hp : isKey P kt (enc p)) (hf0 : f p = none) (ht : tyD P t = some (.map kt et)) (hm : MapK P kt enc w r f) :
    ∃ w', (Instr.mapUpdate t (.map (some r)) (enc p) (.int .i64 v)).run P w = .ok () w' ∧ MapK P kt enc w' r (fun q => if q = p then some v else f q) ∧ Kp (fun i => i = r) w w' ∧ w'.heap.size = w.heap.size := by
  obtain ⟨es, c, hb, h1, h2, h3⟩ := hm
  obtain ⟨lx, hlx⟩ := hp
  have hu := td_map (tyD_ok ht)
  have hck := fun em => K.check w em hlx
  have hlt := (Array.getElem?_eq_some_iff.1 hb).1
  rcases K.find w hlx es.toList h1 with ⟨hf, hne⟩ | ⟨j, e, hf, hj, he⟩
  · refine ⟨_, ?_, ?_, kp_setObj r (.map (es.push { key := enc p, val := .int .i64 v, born := c }) (c + 1)), by simp⟩
    · simp [Instr.mapUpdate, run_und hu, run_getObj_m hb, hck, hf, run_setObj_m _ hb]
    · refine ⟨es.push { key := enc p, val := .int .i64 v, born := c }, c + 1, by simp [hlt], fun e he => ?_, fun e he => ?_, fun q u hq => ?_⟩
      · simp only [Array.toList_push, List.mem_append, List.mem_singleton] at he
        rcases he with he | rfl
        · exact h1 e he
        · exact ⟨lx, hlx⟩
      · simp only [Array.toList_push, List.mem_append, List.mem_singleton] at he
        rcases he with he | rfl
        · obtain ⟨q, u, e1, e2, e3⟩ := h2 e he
          refine ⟨q, u, e1, e2, ?_⟩
          show (if q = p then some v else f q) = some u
          rw [if_neg (fun h : q = p => hne e he (by rw [e1, h]))]
          exact e3
        · exact ⟨p, v, rfl, rfl, if_pos rfl⟩
      · replace hq : (if q = p then some v else f q) = some u := hq
        by_cases e : q = p
        · exact ⟨{ key := enc p, val := .int .i64 v, born := c }, by simp, by rw [e]⟩
        · rw [if_neg e] at hq
          obtain ⟨e', he', hk'⟩ := h3 q u hq
          exact ⟨e', by simp only [Array.toList_push, List.mem_append]; exact .inl he', hk'⟩
  · obtain ⟨q, u, e1, e2, e3⟩ := h2 e (List.mem_of_getElem? hj)
    have : q = p := hinj _ _ (by rw [← e1, he])
    rw [this, hf0] at e3
    cases e3
theorem Ops.putK {κ : Type} [DecidableEq κ] {enc : κ → Value} {o : Oper} {t kt et r : Nat} {x y z : Operand} {p : κ} {v : Int} {f : κ → Option Int} (K : WideMaps.KeyLaw P kt) (hinj : ∀ a b, enc a = enc b → a = b) (ho : o.op = .mapUpdate t x y z) (hd : o.dst = none) (hg : o.guard = none)
    (ht : tyD P t = some (.map kt et)) (hx : ev ρ x = some (.map (some r))) (hy : ev ρ y = some (enc p)) (hz : ev ρ z = some (.int .i64 v)) (hp : isKey P kt (enc p)) (hf0 : f p = none) (hm : MapK P kt enc w r f)
    (hk : ∀ w', MapK P kt enc w' r (fun q => if q = p then some v else f q) → Kp (fun i => i = r) w w' → w'.heap.size = w.heap.size → Ops none P n ds all k Φ l ρ w') : Ops none P n ds all k Φ (o :: l) ρ w := by
  obtain ⟨w', hrun, h1, h2, h3⟩ := run_putK (v := v) K hinj hp hf0 ht hm
  refine Ops.unit hg hd (fun a hr => ?_) (hk w' h1 h2 h3)
  simp [execOp, ho, hr.ev hx, hr.ev hy, hr.ev hz, hrun]
end
end Go.Proofs.YtcmjlmnfdncajaaGreatDoor.VW
/- Lists of lists of ints that are read. -/
namespace Go.Proofs.YtcmjlmnfdncajaaGreatDoor.VW
open Go Go.RowKit
abbrev row (c : List (List Int)) (i : Int) : List Int := c.getD i.toNat []
/-- v reads as a list of lists. -/
def RowsM (w : World) (v : Value) (c : List (List Int)) : Prop := c.length ≤ 9223372036854775807 ∧ ∃ A k svs, v = .slice A c.length k ∧ (0 < c.length → ∃ a, A = some a ∧ ∀ j, j < c.length → w.cell? (a.add j) = some (List.getD svs j undef)) ∧ ∀ j, j < c.length → SlI w (List.getD svs j undef) (c.getD j [])
theorem RowsM.below {w w' : World} {v : Value} {c : List (List Int)} (h : RowsM w v c) (k : Below w.heap.size w w') : RowsM w' v c := by
  obtain ⟨hl, A, kk, svs, rfl, h1, h2⟩ := h
  have kp := Kp.of_below (S := fun _ => False) k
  refine ⟨hl, A, kk, svs, rfl, fun hp => ?_, fun j hj => (h2 j hj).below k⟩
  obtain ⟨a, rfl, hc⟩ := h1 hp
  exact ⟨a, rfl, fun j hj => cell_kp kp (hc j hj) (fun e => e)⟩
theorem RowsM.sl {w : World} {v : Value} {c : List (List Int)} (h : RowsM w v c) : ∃ A k, v = .slice A c.length k := by obtain ⟨_, A, k, _, rfl, _⟩ := h; exact ⟨A, k, rfl⟩
theorem Sl.shape {α : Type} {enc : α → Value} {z : α} {w : World} {v : Value} {xs : List α} (h : Sl enc z w v xs) : ∃ A c, v = .slice A xs.length c := by obtain ⟨_, A, c, rfl, _⟩ := h; exact ⟨A, c, rfl⟩
theorem RowsM.at_ {w0 : World} {v : Value} {c : List (List Int)} (h : RowsM w0 v c) {i : Int} (h0 : 0 ≤ i) (hi : i < c.length) : ∃ a k A' k', v = .slice (some a) c.length k ∧ SlI w0 (.slice A' (row c i).length k') (row c i) ∧
    ∀ w, Below w0.heap.size w0 w → w.cell? (a.add (i.toNat * 1)) = some (.slice A' (row c i).length k') := by
  obtain ⟨_, A, k, svs, rfl, h, hc⟩ := h
  obtain ⟨a, rfl, hcell⟩ := h (by omega)
  have h4 := hcell i.toNat (by omega)
  have h5 := hc i.toNat (by omega)
  obtain ⟨A', k', e⟩ := Sl.shape h5
  rw [e] at h4 h5
  refine ⟨a, k, A', k', rfl, h5, fun w hb => ?_⟩
  rw [Nat.mul_one]
  exact cell_kp (Kp.of_below (S := fun _ => False) hb) h4 (fun e => e)
section
variable {P : Program} [hT : Tab P] {n : Nat} {ds : List Deferred} {Φ : Post} {k : List It} {ρ : E} {w : World} {all : Array Oper} {l : List Oper} {md : Option (List Oper)} {s : Nat} {F : World → Prop} {π : List (Nat × Nat)} {L : List Bool}
theorem z_r {o1 o2 : Oper} {d1 d2 t s t' : Nat} {x y : Operand} {v : Value} {i : Int} {c : List (List Int)} {w0 : World} {c1 c2 : Bool} (h1 : o1.op = .indexAddr t x y := by exact rfl) (hd1 : o1.dst = some d1 := by exact rfl) (hg1 : gdB all ρ o1.guard = some c1 := by exact rfl) (hc1 : c1 = true := by exact rfl) (h2 : o2.op = .load t' (.tmp d1) := by exact rfl) (hd2 : o2.dst = some d2 := by exact rfl) (hg2 : ∀ p, gdB all ((d1, .pointer p) :: ρ) o2.guard = some c2 := by exact fun _ => rfl) (hc2 : c2 = true := by exact rfl)
    (ht : tyD P t = some (.slice s) := by exact rfl) (hs : tyS P s = some 1 := by exact rfl) (ha : tyAgg P t' = some false := by exact rfl) (hx : ev ρ x = some v := by exact rfl) (hy : ev ρ y = some (.int .i64 i) := by exact rfl) (htr : RowsM w0 v c := by assumption) (hbel : Below w0.heap.size w0 w := by first | assumption | exact Below.refl _ _) (h0 : 0 ≤ i := by omega) (hi : i < c.length := by omega)
    (kk : ∀ A m p, SlI w0 (.slice A (row c i).length m) (row c i) → Ops md P n ds all k Φ l ((d2, .slice A (row c i).length m) :: (d1, p) :: ρ) w) : Ops md P n ds all k Φ (o1 :: o2 :: l) ρ w := by
  obtain ⟨a, m, A', m', rfl, hsl, hcell⟩ := htr.at_ h0 hi
  exact Ops.evG hd1 hg1 hc1 (EV.idx h1 ht hs hx hy h0 hi) (Ops.evG hd2 (hg2 _) hc2 (EV.ld h2 ha (ev_top _ _ _) (hcell w hbel)) (kk _ _ _ hsl))
theorem x_r {i1 i2 d1 d2 t s' t' : Nat} {o1 o2 : Oper} {x y : Operand} {v : Value} {i : Int} {c : List (List Int)} {w0 : World} {c1 c2 : Bool} (e1 : all[i1]? = some o1 := by exact rfl) (h1 : o1.op = .indexAddr t x y := by exact rfl) (hd1 : o1.dst = some d1 := by exact rfl) (hg1 : gdB all ρ o1.guard = some c1 := by exact rfl) (hc1 : c1 = true := by exact rfl) (e2 : all[i2]? = some o2 := by exact rfl) (h2 : o2.op = .load t' (.tmp d1) := by exact rfl) (hd2 : o2.dst = some d2 := by exact rfl) (hg2 : ∀ p, gdB all ((d1, .pointer p) :: ρ) o2.guard = some c2 := by exact fun _ => rfl) (hc2 : c2 = true := by exact rfl)
    (ht : tyD P t = some (.slice s') := by exact rfl) (hs : tyS P s' = some 1 := by exact rfl) (ha : tyAgg P t' = some false := by exact rfl) (hx : ev ρ x = some v := by exact rfl) (hy : ev ρ y = some (.int .i64 i) := by exact rfl) (htr : RowsM w0 v c := by assumption) (hF : ∀ w, F w → Below w0.heap.size w0 w := by first | exact fun _ h => h | (intro _ h; exact Below.via (by assumption) h)) (h0 : 0 ≤ i := by omega) (hi : i < c.length := by omega)
    (kk : ∀ A m p, SlI w0 (.slice A (row c i).length m) (row c i) → OrdA P n ds all k Φ s F π ((L.set i1 true).set i2 true) ((d2, .slice A (row c i).length m) :: (d1, p) :: ρ)) : OrdA P n ds all k Φ s F ((i1, 1) :: (i2, 2) :: π) L ρ := by
  obtain ⟨a, m, A', m', rfl, hsl, hcell⟩ := htr.at_ h0 hi
  exact OrdA.pure e1 hd1 hg1 hc1 (fun w => EV.idx h1 ht hs hx hy h0 hi) (OrdA.read e2 hd2 (hg2 _) hc2 (fun w hw => EV.ld h2 ha (ev_top _ _ _) (hcell w (hF w hw))) (kk _ _ _ hsl))
theorem y_r {i1 i2 d1 d2 t s' t' : Nat} {o1 o2 : Oper} {x y : Operand} {v : Value} {i : Int} {c : List (List Int)} {w0 : World} {c1 c2 : Bool} (e1 : all[i1]? = some o1 := by exact rfl) (h1 : o1.op = .indexAddr t x y := by exact rfl) (hd1 : o1.dst = some d1 := by exact rfl) (hg1 : gdB all ρ o1.guard = some c1 := by exact rfl) (hc1 : c1 = true := by exact rfl) (e2 : all[i2]? = some o2 := by exact rfl) (h2 : o2.op = .load t' (.tmp d1) := by exact rfl) (hd2 : o2.dst = some d2 := by exact rfl) (hg2 : ∀ p, gdB all ((d1, .pointer p) :: ρ) o2.guard = some c2 := by exact fun _ => rfl) (hc2 : c2 = true := by exact rfl)
    (ht : tyD P t = some (.slice s') := by exact rfl) (hs : tyS P s' = some 1 := by exact rfl) (ha : tyAgg P t' = some false := by exact rfl) (hx : ev ρ x = some v := by exact rfl) (hy : ev ρ y = some (.int .i64 i) := by exact rfl) (htr : RowsM w0 v c := by assumption) (hF : ∀ w, F w → Below w0.heap.size w0 w := by first | exact fun _ h => h | (intro _ h; exact Below.via (by assumption) h)) (h0 : 0 ≤ i := by omega) (hi : i < c.length := by omega) (hΦ : ∀ c ρ w, (Φ (.panic c) ρ w → Φ (.panic c) [] w) := by exact fun _ _ _ h => h)
    (kk : ∀ A m p, SlI w0 (.slice A (row c i).length m) (row c i) → VW.Ord P n ds all k Φ s F π ((L.set i1 true).set i2 true) ((d2, .slice A (row c i).length m) :: (d1, p) :: ρ) w) : VW.Ord P n ds all k Φ s F ((i1, 1) :: (i2, 2) :: π) L ρ w := by
  obtain ⟨a, m, A', m', rfl, hsl, hcell⟩ := htr.at_ h0 hi
  exact VW.Ord.pure e1 hd1 hg1 hc1 hΦ (fun w => EV.idx h1 ht hs hx hy h0 hi) (VW.Ord.read' e2 hd2 (hg2 _) hc2 hΦ (fun w hw => EV.ld h2 ha (ev_top _ _ _) (hcell w (hF w hw))) (kk _ _ _ hsl))
end
end Go.Proofs.YtcmjlmnfdncajaaGreatDoor.VW
/- Lists of lists of the call's own. -/
namespace Go.Proofs.YtcmjlmnfdncajaaGreatDoor.VW
open Go Go.RowKit
theorem sl_kp' {α : Type} {enc : α → Value} {z : α} {w w' : World} {v : Value} {xs : List α} {S : Nat → Prop} (h : Sl enc z w v xs) (k : Kp S w w') (hs : 0 < xs.length → ∀ i, v.ownBlock = some i → ¬ S i) : Sl enc z w' v xs := by
  by_cases hp : 0 < xs.length
  · exact h.kp k (hs hp)
  · obtain ⟨h1, A, c, e, _⟩ := h
    exact ⟨h1, A, c, e, fun h => absurd h hp⟩
theorem appV_getD {α : Type} {xs : List α} {z d : α} {j : Nat} (h : j < xs.length) : (xs ++ [z]).getD j d = xs.getD j d := by rw [List.getD_eq_getElem?_getD, List.getElem?_append_left h, ← List.getD_eq_getElem?_getD]
theorem appV_last {α : Type} {xs : List α} {z d : α} {n : Nat} (h : n = xs.length) : (xs ++ [z]).getD n d = z := by subst h; simp [List.getD_eq_getElem?_getD]
structure RO (e : Nat) (w0 w : World) (ov : Value) (cvs : List Value) (c : List (List Int)) : Prop where
  o : OI e (fun v : Value => v) w0 w ov cvs
  len : cvs.length = c.length
  rows : ∀ j, j < c.length → SlI w (cvs.getD j undef) (c.getD j []) ∧ (0 < (c.getD j []).length → ∀ i, (cvs.getD j undef).ownBlock = some i → ov.ownBlock ≠ some i)
theorem RO.nil {e : Nat} {w0 w : World} (h : Below w0.heap.size w0 w) : RO e w0 w (.slice none 0 0) [] [] := ⟨OI.nil h, rfl, fun j hj => by simp at hj⟩
theorem RO.below {e : Nat} {w0 w w' : World} {ov : Value} {c : List (List Int)} {cvs : List Value} (h : RO e w0 w ov cvs c) (k : Below w.heap.size w w') : RO e w0 w' ov cvs c :=
  ⟨h.o.below k, h.len, fun j hj => ⟨Sl.below (h.rows j hj).1 k, (h.rows j hj).2⟩⟩
theorem RO.up {e : Nat} {w0 w1 w : World} {ov : Value} {c : List (List Int)} {cvs : List Value} (h : RO e w1 w ov cvs c) (k : Below w0.heap.size w0 w1) : RO e w0 w ov cvs c := ⟨h.o.up k, h.len, h.rows⟩
theorem RO.push {e : Nat} {w0 w w' : World} {ov ov' cv : Value} {c : List (List Int)} {cvs : List Value} {xs : List Int} (h : RO e w0 w ov cvs c) (hk : SlI w cv xs) (hne : 0 < xs.length → ∀ i, cv.ownBlock = some i → ov.ownBlock ≠ some i)
    (hO : OI e (fun v : Value => v) w0 w' ov' (cvs ++ [cv])) (k : Kp (fun i => ov.ownBlock = some i) w w') (hn : ∀ i, ov'.ownBlock = some i → ov.ownBlock = some i ∨ w.heap.size ≤ i) : RO e w0 w' ov' (cvs ++ [cv]) (c ++ [xs]) := by
  have hl := h.len
  refine ⟨hO, by simp [hl], fun j hj => ?_⟩
  have hgen : ∀ (v : Value) (ys : List Int), SlI w v ys → (0 < ys.length → ∀ i, v.ownBlock = some i → ov.ownBlock ≠ some i) → SlI w' v ys ∧ (0 < ys.length → ∀ i, v.ownBlock = some i → ov'.ownBlock ≠ some i) := fun v ys hv hs => by
    refine ⟨sl_kp' hv k (fun hp i hi e => hs hp i hi e), fun hp i hi e => ?_⟩
    rcases hn i e with e2 | e2
    · exact hs hp i hi e2
    · have := Sl.lt hv hp hi; omega
  rw [List.length_append, List.length_singleton] at hj
  by_cases e : j = c.length
  · subst e
    rw [appV_last hl.symm, appV_last rfl]
    exact hgen cv xs hk hne
  · rw [appV_getD (by omega), appV_getD (by omega)]
    exact hgen _ _ (h.rows j (by omega)).1 (h.rows j (by omega)).2
theorem RO.rowsM {e : Nat} {w0 w : World} {ov : Value} {c : List (List Int)} {cvs : List Value} (h : RO e w0 w ov cvs c) : RowsM w ov c := by
  obtain ⟨hl, A, k, rfl, hc⟩ := h.o.sl (z := undef)
  refine ⟨by rw [← h.len]; exact hl, A, k, cvs, by rw [h.len], fun hp => ?_, fun j hj => (h.rows j hj).1⟩
  obtain ⟨a, rfl, hcc⟩ := hc (by rw [h.len]; exact hp)
  exact ⟨a, rfl, fun j hj => hcc j (by rw [h.len]; exact hj)⟩
/-- Lists of lists that come in. -/
def ArgR (w : World) (v : Value) (c : List (List Int)) : Prop :=
  RowsM w v c ∧ ∀ i : Int, 0 ≤ i → i < c.length → ∃ a k A' k', v = .slice (some a) c.length k ∧ SlI w (.slice A' (row c i).length k') (row c i) ∧ (row c i).length ≤ k' ∧ ∀ w', Below w.heap.size w w' → w'.cell? (a.add (i.toNat * 1)) = some (.slice A' (row c i).length k')
section
variable {P : Program} [hT : Tab P] {n : Nat} {ds : List Deferred} {Φ : Post} {k : List It} {ρ : E} {w : World} {all : Array Oper} {l : List Oper} {md : Option (List Oper)}
theorem z_R {o1 o2 : Oper} {d1 d2 t s t' : Nat} {x y : Operand} {v : Value} {i : Int} {c : List (List Int)} {w0 : World} {c1 c2 : Bool} (h1 : o1.op = .indexAddr t x y := by exact rfl) (hd1 : o1.dst = some d1 := by exact rfl) (hg1 : gdB all ρ o1.guard = some c1 := by exact rfl) (hc1 : c1 = true := by exact rfl) (h2 : o2.op = .load t' (.tmp d1) := by exact rfl) (hd2 : o2.dst = some d2 := by exact rfl) (hg2 : ∀ p, gdB all ((d1, .pointer p) :: ρ) o2.guard = some c2 := by exact fun _ => rfl) (hc2 : c2 = true := by exact rfl)
    (ht : tyD P t = some (.slice s) := by exact rfl) (hs : tyS P s = some 1 := by exact rfl) (ha : tyAgg P t' = some false := by exact rfl) (hx : ev ρ x = some v := by exact rfl) (hy : ev ρ y = some (.int .i64 i) := by exact rfl) (htr : ArgR w0 v c := by assumption) (hbel : Below w0.heap.size w0 w := by first | assumption | exact Below.refl _ _) (h0 : 0 ≤ i := by omega) (hi : i < c.length := by omega)
    (kk : ∀ A m p, SlI w0 (.slice A (row c i).length m) (row c i) → (row c i).length ≤ m → Ops md P n ds all k Φ l ((d2, .slice A (row c i).length m) :: (d1, p) :: ρ) w) : Ops md P n ds all k Φ (o1 :: o2 :: l) ρ w := by
  obtain ⟨a, m, A', m', rfl, hsl, hcap, hcell⟩ := htr.2 i h0 hi
  exact Ops.evG hd1 hg1 hc1 (EV.idx h1 ht hs hx hy h0 hi) (Ops.evG hd2 (hg2 _) hc2 (EV.ld h2 ha (ev_top _ _ _) (hcell w hbel)) (kk _ _ _ hsl hcap))
end
end Go.Proofs.YtcmjlmnfdncajaaGreatDoor.VW
/- Numbers as sets of bits; maps that may be nil. -/
namespace Go.Proofs.YtcmjlmnfdncajaaGreatDoor.VW
open Go Go.RowKit
theorem wrap_nat {x : Nat} (h : x < 4611686018427387904) : IntKind.i64.wrap (x : Int) = x := wrap_in (by unfold inR; omega)
theorem m_shr {t j : Nat} (hj : j ≤ 60) : bsh .shr .i64 (t : Int) (j : Int) = some ((t / 2 ^ j : Nat) : Int) := by
  have h0 : ¬ ((j : Int) < 0) := by omega
  have h1 : min ((j : Int).toNat) (IntKind.bits .i64) = j := by simp [IntKind.bits]; omega
  simp only [bsh, h0, if_false, h1]
  congr 1
  have h2 : (2 : Int) ^ j = ((2 ^ j : Nat) : Int) := by rw [Int.natCast_pow]; rfl
  rw [h2, Int.fdiv_eq_ediv_of_nonneg _ (Int.natCast_nonneg _), Int.natCast_ediv]
theorem m_shl {j : Nat} (hj : j ≤ 60) : bsh .shl .i64 1 (j : Int) = some ((2 ^ j : Nat) : Int) := by
  have h0 : ¬ ((j : Int) < 0) := by omega
  have h1 : min ((j : Int).toNat) (IntKind.bits .i64) = j := by simp [IntKind.bits]; omega
  simp only [bsh, h0, if_false, h1]
  congr 1
  have h2 : (1 : Int) * 2 ^ j = ((2 ^ j : Nat) : Int) := by rw [Int.natCast_pow, Int.one_mul]; rfl
  rw [h2]
  refine wrap_nat ?_
  calc 2 ^ j ≤ 2 ^ 60 := Nat.pow_le_pow_right (by omega) hj
    _ < _ := by decide
theorem m_and1 {t : Nat} (ht : t < 4611686018427387904) : bw .and .i64 (t : Int) 1 = some ((t % 2 : Nat) : Int) := by
  simp only [bw]
  congr 1
  have h1 : (BitVec.ofInt (IntKind.bits .i64) (t : Int) &&& BitVec.ofInt (IntKind.bits .i64) 1).toNat = t % 2 := by
    have e1 : (BitVec.ofInt (IntKind.bits .i64) (t : Int)).toNat = t := by show (BitVec.ofInt 64 (t : Int)).toNat = t; simp [BitVec.toNat_ofInt]; omega
    have e2 : (BitVec.ofInt (IntKind.bits .i64) 1).toNat = 1 := by decide
    rw [BitVec.toNat_and, e1, e2, Nat.and_one_is_mod]
  rw [h1]
  exact wrap_nat (by omega)
theorem m_or {t s : Nat} (ht : t < 2 ^ 60) (hs : s < 2 ^ 60) : bw .or .i64 (t : Int) (s : Int) = some ((t ||| s : Nat) : Int) := by
  simp only [bw]
  congr 1
  have h1 : (BitVec.ofInt (IntKind.bits .i64) (t : Int) ||| BitVec.ofInt (IntKind.bits .i64) (s : Int)).toNat = t ||| s := by
    have e1 : ∀ t : Nat, t < 2 ^ 60 → (BitVec.ofInt (IntKind.bits .i64) (t : Int)).toNat = t := fun t ht => by show (BitVec.ofInt 64 (t : Int)).toNat = t; simp [BitVec.toNat_ofInt]; omega
    rw [BitVec.toNat_or, e1 t ht, e1 s hs]
  rw [h1]
  refine wrap_nat ?_
  have := Nat.or_lt_two_pow ht hs
  omega
theorem bit_iff {t j : Nat} : (((t / 2 ^ j % 2 : Nat) : Int) == 1) = t.testBit j := by
  rw [Nat.testBit_eq_decide_div_mod_eq, Bool.eq_iff_iff, beq_iff_eq, decide_eq_true_iff]
  omega
/-- A map from ints to true that may be nil. -/
def OutM (w : World) (ov : Value) (g : Int → Bool) (b : Nat) : Prop := (ov = .map none ∧ g = fun _ => false) ∨ ∃ r, ov = .map (some r) ∧ r ≠ b ∧ MapB w r g
theorem OutM.kp {w w' : World} {ov : Value} {g : Int → Bool} {b : Nat} {S : Nat → Prop} (h : OutM w ov g b) (k : Kp S w w') (hs : ∀ r, ov = .map (some r) → ¬ S r) : OutM w' ov g b := by
  rcases h with h | ⟨r, e, hn, hm⟩
  · exact .inl h
  · exact .inr ⟨r, e, hn, hm.kp k (hs r e)⟩
theorem OutM.kpb {w w' : World} {ov : Value} {g : Int → Bool} {b : Nat} (h : OutM w ov g b) (k : Kp (fun i => i = b) w w') : OutM w' ov g b := by
  rcases h with h | ⟨r, e, hn, hm⟩
  · exact .inl h
  · exact .inr ⟨r, e, hn, hm.kp k hn⟩
section
variable {P : Program} [hT : Tab P] {n : Nat} {ds : List Deferred} {Φ : Post} {k : List It} {ρ : E} {w : World} {all : Array Oper} {l : List Oper} {md : Option (List Oper)}
theorem Ops.lookO {o : Oper} {d t kt et b : Nat} {x y : Operand} {i : Int} {ov : Value} {g : Int → Bool} (ho : o.op = .lookup t x y false) (hd : o.dst = some d) (hg : o.guard = none)
    (ht : tyD P t = some (.map kt et)) (hkt : tyD P kt = some (.int .i64)) (hz : tyZ P et = some (.bool false)) (hx : ev ρ x = some ov) (hy : ev ρ y = some (.int .i64 i)) (hm : OutM w ov g b)
    (hk : Ops md P n ds all k Φ l ((d, .bool (g i)) :: ρ) w) : Ops md P n ds all k Φ (o :: l) ρ w := by
  rcases hm with ⟨rfl, rfl⟩ | ⟨r, rfl, _, hm⟩
  · refine Ops.valS hd hg (fun a hr => ?_) hk
    have h3 := run_findKey_int (P := P) (w := w) (kt := kt) (es := []) (x := i) (r := none) (td_int (tyD_ok hkt)) rfl
    simp [execOp, ho, hr.ev hx, hr.ev hy, Instr.lookup, run_und (td_map (tyD_ok ht)), run_checkKey_int (td_int (tyD_ok hkt)), h3, run_zeroV hz]
  · exact Ops.look ho hd hg ht hkt hz hx hy hm hk
end
end Go.Proofs.YtcmjlmnfdncajaaGreatDoor.VW
/- Rules with standing arguments: bits, pairs, fields of a block. -/
namespace Go.Proofs.YtcmjlmnfdncajaaGreatDoor.VW
open Go Go.RowKit
section
variable {P : Program} [hT : Tab P] {n : Nat} {ds : List Deferred} {Φ : Post} {k : List It} {ρ : E} {w : World} {all : Array Oper} {l : List Oper} {md : Option (List Oper)} {s : Nat} {F : World → Prop} {π : List (Nat × Nat)} {L : List Bool}
theorem z_B {o : Oper} {c : Bool} {d t : Nat} {x y : Operand} {u v z0 z1 : Value} (hd : o.dst = some d := by exact rfl) (hg : gdB all ρ o.guard = some c := by exact rfl) (hgc : c = true := by exact rfl) (ho : o.op = .build t #[(0, x), (1, y)] := by exact rfl)
    (ht : tyD P t = some (.struct [(0, 1), (1, 1)]) := by exact rfl) (hz : tyZ P t = some (.agg #[z0, z1]) := by exact rfl) (hx : ev ρ x = some u := by exact rfl) (hy : ev ρ y = some v := by exact rfl) (h1 : u.oneCell' = true := by exact rfl) (h2 : v.oneCell' = true := by exact rfl)
    (kk : Ops md P n ds all k Φ l ((d, .agg #[u, v]) :: ρ) w) : Ops md P n ds all k Φ (o :: l) ρ w := Ops.evG hd hg hgc (EV.bld2 ho ht hz hx hy h1 h2) kk
theorem z_S {o : Oper} {c : Bool} {d j t t' : Nat} {x y : Operand} (hd : o.dst = some d := by exact rfl) (hg : gdB all ρ o.guard = some c := by exact rfl) (hgc : c = true := by exact rfl) (ho : o.op = .binOp .shl t x y t' := by exact rfl) (hx : ev ρ x = some (.int .i64 1) := by exact rfl) (hy : ev ρ y = some (.int .i64 (j : Int)) := by exact rfl) (hj : j ≤ 60 := by omega)
    (kk : Ops md P n ds all k Φ l ((d, .int .i64 ((2 ^ j : Nat) : Int)) :: ρ) w) : Ops md P n ds all k Φ (o :: l) ρ w := Ops.evG hd hg hgc (EV.bsh ho hx hy (m_shl hj)) kk
theorem z_Q {o : Oper} {c : Bool} {d j m t t' : Nat} {x y : Operand} (hd : o.dst = some d := by exact rfl) (hg : gdB all ρ o.guard = some c := by exact rfl) (hgc : c = true := by exact rfl) (ho : o.op = .binOp .shr t x y t' := by exact rfl) (hx : ev ρ x = some (.int .i64 (m : Int)) := by exact rfl) (hy : ev ρ y = some (.int .i64 (j : Int)) := by exact rfl) (hj : j ≤ 60 := by omega)
    (kk : Ops md P n ds all k Φ l ((d, .int .i64 ((m / 2 ^ j : Nat) : Int)) :: ρ) w) : Ops md P n ds all k Φ (o :: l) ρ w := Ops.evG hd hg hgc (EV.bsh ho hx hy (m_shr hj)) kk
theorem z_1 {o : Oper} {c : Bool} {d m t t' : Nat} {x y : Operand} (hd : o.dst = some d := by exact rfl) (hg : gdB all ρ o.guard = some c := by exact rfl) (hgc : c = true := by exact rfl) (ho : o.op = .binOp .and t x y t' := by exact rfl) (hx : ev ρ x = some (.int .i64 (m : Int)) := by exact rfl) (hy : ev ρ y = some (.int .i64 1) := by exact rfl) (hm : m < 4611686018427387904 := by omega)
    (kk : Ops md P n ds all k Φ l ((d, .int .i64 ((m % 2 : Nat) : Int)) :: ρ) w) : Ops md P n ds all k Φ (o :: l) ρ w := Ops.evG hd hg hgc (EV.bw ho hx hy (m_and1 hm)) kk
theorem z_O {o : Oper} {c : Bool} {d a b t t' : Nat} {x y : Operand} (hd : o.dst = some d := by exact rfl) (hg : gdB all ρ o.guard = some c := by exact rfl) (hgc : c = true := by exact rfl) (ho : o.op = .binOp .or t x y t' := by exact rfl) (hx : ev ρ x = some (.int .i64 (a : Int)) := by exact rfl) (hy : ev ρ y = some (.int .i64 (b : Int)) := by exact rfl) (ha : a < 1152921504606846976 := by omega) (hb : b < 1152921504606846976 := by omega)
    (kk : Ops md P n ds all k Φ l ((d, .int .i64 ((a ||| b : Nat) : Int)) :: ρ) w) : Ops md P n ds all k Φ (o :: l) ρ w := Ops.evG hd hg hgc (EV.bw ho hx hy (m_or (by simpa using ha) (by simpa using hb))) kk
/-- A pair out of a block. -/
theorem z_2 {o : Oper} {d t b t' : Nat} {x : Operand} {cs : Array Value} {v u : Value} {w0 : World} (hd : o.dst = some d := by exact rfl) (hg : o.guard = none := by exact rfl) (ho : o.op = .load t x := by exact rfl)
    (ht : tyAgg P t = some true := by exact rfl) (hs : tyS P t = some 2 := by exact rfl) (hx : ev ρ x = some (.pointer (some ⟨b, 0, none⟩)) := by exact rfl) (hb : Blk w0 b cs t' := by assumption) (hbel : Below w0.heap.size w0 w := by first | assumption | exact Below.refl _ _) (h0 : nth cs.toList 0 = some v := by exact rfl) (h1 : nth cs.toList 1 = some u := by exact rfl)
    (kk : Ops md P n ds all k Φ l ((d, .agg #[v, u]) :: ρ) w) : Ops md P n ds all k Φ (o :: l) ρ w := by
  have hb' := hb.kp (Kp.of_below (S := fun _ => False) hbel) (fun e => e)
  rw [nth_eq, Array.getElem?_toList] at h0 h1
  exact Ops.ld2 ho hd hg ht hs hx (hb'.cell h0) (by rw [add_lit]; exact hb'.cell h1) kk
theorem x_P {i d t j off sz b q : Nat} {o : Oper} {x : Operand} {c : Bool} (h1 : all[i]? = some o := by exact rfl) (hd : o.dst = some d := by exact rfl) (hg : gdB all ρ o.guard = some c := by exact rfl) (hgc : c = true := by exact rfl) (ho : o.op = .fieldAddr t x j := by exact rfl) (ht : fieldOff P t j = some (off, sz + 1) := by exact rfl) (hx : ev ρ x = some (.pointer (some ⟨b, q, none⟩)) := by exact rfl)
    (kk : OrdA P n ds all k Φ s F π (L.set i true) ((d, .pointer (some ⟨b, q + off, none⟩)) :: ρ)) : OrdA P n ds all k Φ s F ((i, 1) :: π) L ρ := by
  refine OrdA.pure h1 hd hg hgc (fun _ => ?_) kk
  rw [← add_lit]
  exact EV.fld ho ht hx
theorem x_B {i d t : Nat} {o : Oper} {x y : Operand} {c : Bool} {u v z0 z1 : Value} (h0 : all[i]? = some o := by exact rfl) (hd : o.dst = some d := by exact rfl) (hg : gdB all ρ o.guard = some c := by exact rfl) (hgc : c = true := by exact rfl) (ho : o.op = .build t #[(0, x), (1, y)] := by exact rfl)
    (ht : tyD P t = some (.struct [(0, 1), (1, 1)]) := by exact rfl) (hz : tyZ P t = some (.agg #[z0, z1]) := by exact rfl) (hx : ev ρ x = some u := by exact rfl) (hy : ev ρ y = some v := by exact rfl) (h1 : u.oneCell' = true := by exact rfl) (h2 : v.oneCell' = true := by exact rfl)
    (kk : OrdA P n ds all k Φ s F π (L.set i true) ((d, .agg #[u, v]) :: ρ)) : OrdA P n ds all k Φ s F ((i, 1) :: π) L ρ := OrdA.pure h0 hd hg hgc (fun _ => EV.bld2 ho ht hz hx hy h1 h2) kk
theorem x_S {i d j t t' : Nat} {o : Oper} {x y : Operand} {c : Bool} (h0 : all[i]? = some o := by exact rfl) (hd : o.dst = some d := by exact rfl) (hg : gdB all ρ o.guard = some c := by exact rfl) (hgc : c = true := by exact rfl) (ho : o.op = .binOp .shl t x y t' := by exact rfl) (hx : ev ρ x = some (.int .i64 1) := by exact rfl) (hy : ev ρ y = some (.int .i64 (j : Int)) := by exact rfl) (hj : j ≤ 60 := by omega)
    (kk : OrdA P n ds all k Φ s F π (L.set i true) ((d, .int .i64 ((2 ^ j : Nat) : Int)) :: ρ)) : OrdA P n ds all k Φ s F ((i, 1) :: π) L ρ := OrdA.pure h0 hd hg hgc (fun _ => EV.bsh ho hx hy (m_shl hj)) kk
theorem x_O {i d a b t t' : Nat} {o : Oper} {x y : Operand} {c : Bool} (h0 : all[i]? = some o := by exact rfl) (hd : o.dst = some d := by exact rfl) (hg : gdB all ρ o.guard = some c := by exact rfl) (hgc : c = true := by exact rfl) (ho : o.op = .binOp .or t x y t' := by exact rfl) (hx : ev ρ x = some (.int .i64 (a : Int)) := by exact rfl) (hy : ev ρ y = some (.int .i64 (b : Int)) := by exact rfl) (ha : a < 1152921504606846976 := by omega) (hb : b < 1152921504606846976 := by omega)
    (kk : OrdA P n ds all k Φ s F π (L.set i true) ((d, .int .i64 ((a ||| b : Nat) : Int)) :: ρ)) : OrdA P n ds all k Φ s F ((i, 1) :: π) L ρ := OrdA.pure h0 hd hg hgc (fun _ => EV.bw ho hx hy (m_or (by simpa using ha) (by simpa using hb))) kk
end
end Go.Proofs.YtcmjlmnfdncajaaGreatDoor.VW
/- Arrays in blocks of the call's own; the rules of V30 in drawn regions with effects. -/
namespace Go.Proofs.YtcmjlmnfdncajaaGreatDoor.VW
open Go Go.RowKit
section
variable {P : Program} [hT : Tab P] {n : Nat} {ds : List Deferred} {Φ : Post} {k : List It} {ρ : E} {w : World} {all : Array Oper} {l : List Oper} {md : Option (List Oper)} {s : Nat} {F : World → Prop} {π : List (Nat × Nat)} {L : List Bool}
theorem y_P {i d t j off sz b q : Nat} {o : Oper} {x : Operand} {c : Bool} (h1 : all[i]? = some o := by exact rfl) (hd : o.dst = some d := by exact rfl) (hg : gdB all ρ o.guard = some c := by exact rfl) (hgc : c = true := by exact rfl) (ho : o.op = .fieldAddr t x j := by exact rfl) (ht : fieldOff P t j = some (off, sz + 1) := by exact rfl) (hx : ev ρ x = some (.pointer (some ⟨b, q, none⟩)) := by exact rfl) (hΦ : ∀ c ρ w, (Φ (.panic c) ρ w → Φ (.panic c) [] w) := by exact fun _ _ _ h => h)
    (kk : VW.Ord P n ds all k Φ s F π (L.set i true) ((d, .pointer (some ⟨b, q + off, none⟩)) :: ρ) w) : VW.Ord P n ds all k Φ s F ((i, 1) :: π) L ρ w := by
  refine VW.Ord.pure h1 hd hg hgc hΦ (fun _ => ?_) kk
  rw [← add_lit]
  exact EV.fld ho ht hx
theorem y_B {i d t : Nat} {o : Oper} {x y : Operand} {c : Bool} {u v z0 z1 : Value} (h0 : all[i]? = some o := by exact rfl) (hd : o.dst = some d := by exact rfl) (hg : gdB all ρ o.guard = some c := by exact rfl) (hgc : c = true := by exact rfl) (ho : o.op = .build t #[(0, x), (1, y)] := by exact rfl)
    (ht : tyD P t = some (.struct [(0, 1), (1, 1)]) := by exact rfl) (hz : tyZ P t = some (.agg #[z0, z1]) := by exact rfl) (hx : ev ρ x = some u := by exact rfl) (hy : ev ρ y = some v := by exact rfl) (h1 : u.oneCell' = true := by exact rfl) (h2 : v.oneCell' = true := by exact rfl) (hΦ : ∀ c ρ w, (Φ (.panic c) ρ w → Φ (.panic c) [] w) := by exact fun _ _ _ h => h)
    (kk : VW.Ord P n ds all k Φ s F π (L.set i true) ((d, .agg #[u, v]) :: ρ) w) : VW.Ord P n ds all k Φ s F ((i, 1) :: π) L ρ w := VW.Ord.pure h0 hd hg hgc hΦ (fun _ => EV.bld2 ho ht hz hx hy h1 h2) kk
theorem y_S {i d j t t' : Nat} {o : Oper} {x y : Operand} {c : Bool} (h0 : all[i]? = some o := by exact rfl) (hd : o.dst = some d := by exact rfl) (hg : gdB all ρ o.guard = some c := by exact rfl) (hgc : c = true := by exact rfl) (ho : o.op = .binOp .shl t x y t' := by exact rfl) (hx : ev ρ x = some (.int .i64 1) := by exact rfl) (hy : ev ρ y = some (.int .i64 (j : Int)) := by exact rfl) (hj : j ≤ 60 := by omega) (hΦ : ∀ c ρ w, (Φ (.panic c) ρ w → Φ (.panic c) [] w) := by exact fun _ _ _ h => h)
    (kk : VW.Ord P n ds all k Φ s F π (L.set i true) ((d, .int .i64 ((2 ^ j : Nat) : Int)) :: ρ) w) : VW.Ord P n ds all k Φ s F ((i, 1) :: π) L ρ w := VW.Ord.pure h0 hd hg hgc hΦ (fun _ => EV.bsh ho hx hy (m_shl hj)) kk
theorem y_O {i d a b t t' : Nat} {o : Oper} {x y : Operand} {c : Bool} (h0 : all[i]? = some o := by exact rfl) (hd : o.dst = some d := by exact rfl) (hg : gdB all ρ o.guard = some c := by exact rfl) (hgc : c = true := by exact rfl) (ho : o.op = .binOp .or t x y t' := by exact rfl) (hx : ev ρ x = some (.int .i64 (a : Int)) := by exact rfl) (hy : ev ρ y = some (.int .i64 (b : Int)) := by exact rfl) (ha : a < 1152921504606846976 := by omega) (hb : b < 1152921504606846976 := by omega) (hΦ : ∀ c ρ w, (Φ (.panic c) ρ w → Φ (.panic c) [] w) := by exact fun _ _ _ h => h)
    (kk : VW.Ord P n ds all k Φ s F π (L.set i true) ((d, .int .i64 ((a ||| b : Nat) : Int)) :: ρ) w) : VW.Ord P n ds all k Φ s F ((i, 1) :: π) L ρ w := VW.Ord.pure h0 hd hg hgc hΦ (fun _ => EV.bw ho hx hy (m_or (by simpa using ha) (by simpa using hb))) kk
theorem y_D {i d t b q t' : Nat} {o : Oper} {x : Operand} {cs : Array Value} {v : Value} {w0 : World} {c : Bool} (h1 : all[i]? = some o := by exact rfl) (ho : o.op = .load t x := by exact rfl) (hd : o.dst = some d := by exact rfl) (hg : gdB all ρ o.guard = some c := by exact rfl) (hgc : c = true := by exact rfl)
    (ht : tyAgg P t = some false := by exact rfl) (hx : ev ρ x = some (.pointer (some ⟨b, q, none⟩)) := by exact rfl) (hb : Blk w0 b cs t' := by assumption) (hF : ∀ w, F w → Below w0.heap.size w0 w := by first | exact fun _ h => h | (intro _ h; exact Below.via (by assumption) h)) (hi : nth cs.toList q = some v := by exact rfl) (hΦ : ∀ c ρ w, (Φ (.panic c) ρ w → Φ (.panic c) [] w) := by exact fun _ _ _ h => h)
    (kk : VW.Ord P n ds all k Φ s F π (L.set i true) ((d, v) :: ρ) w) : VW.Ord P n ds all k Φ s F ((i, 2) :: π) L ρ w :=
  VW.Ord.read' h1 hd hg hgc hΦ (fun w hFw => EV.ld ho ht hx ((hb.kp (Kp.of_below (S := fun _ => False) (hF w hFw)) (fun e => e)).cell (by rw [nth_eq, Array.getElem?_toList] at hi; exact hi))) kk
/-- An array or a struct of nothing but zeros. -/
theorem EV.bld0 {o : Oper} {t e sz len : Nat} {z : Value} (ho : o.op = .build t #[]) (ht : tyD P t = some (.array len e)) (hs : tyS P e = some sz) (hz : tyZ P t = some z) : EV P n ρ w o (.agg z.cells) := by
  intro a hr
  simp [execOp, ho, Instr.build, run_zeroV hz, run_und (td_array (tyD_ok ht)), run_sizeOf hs, Instr.fill]
/-- The place of an element of an array. -/
theorem EV.idxP {o : Oper} {t e sz len : Nat} {x y : Operand} {A : Addr} {i : Int} (ho : o.op = .indexAddr t x y)
    (ht : tyD P t = some (.array len e)) (hs : tyS P e = some sz) (hx : ev ρ x = some (.pointer (some A))) (hy : ev ρ y = some (.int .i64 i)) (h0 : 0 ≤ i) (h1 : i < len) : EV P n ρ w o (.pointer (some (A.add (i.toNat * sz)))) := by
  intro a hr
  have hu := td_array (tyD_ok ht)
  simp [execOp, ho, Instr.indexAt, asIntOf, hr.ev hx, hr.ev hy, run_und hu, run_sizeOf hs, h0, h1, Instr.sureAddr]
/-- A store of any size into a block of the call's own. -/
theorem run_storeCells {b t' : Nat} : ∀ (vs done old : List Value) (w : World), Blk w b (done ++ old).toArray t' → vs.length = old.length → (∀ v ∈ vs, v.oneCell' = true) → ∃ w', (storeCells ⟨b, 0, none⟩ vs done.length).run P w = .ok () w' ∧ Upd w w' b (done ++ vs).toArray t'
  | [], done, old, w, hb, hl, _ => by
    have : old = [] := List.eq_nil_of_length_eq_zero (by simpa using hl.symm)
    subst this
    exact ⟨w, by simp [storeCells], hb, Kp.refl _ _, rfl⟩
  | v :: vs, done, [], w, hb, hl, _ => by simp at hl
  | v :: vs, done, c :: old, w, hb, hl, h1 => by
    have hc : w.cell? ⟨b, done.length, none⟩ = some c := hb.cell (by simp)
    have hfz : w.frozen? ⟨b, done.length, none⟩ = false := by unfold Blk at hb; simp [World.frozen?, hb]
    have hr := run_store (P := P) (h1 v (by simp)) hc hfz
    have hu := upd_set hb done.length v
    have hset : (done ++ c :: old).toArray.setIfInBounds done.length v = ((done ++ [v]) ++ old).toArray := by
      apply Array.toList_inj.1
      simp
    rw [hset] at hu
    obtain ⟨w', hr', hu'⟩ := run_storeCells vs (done ++ [v]) old _ hu.blk (by simpa using hl) (fun u hu => h1 u (by simp [hu]))
    refine ⟨w', ?_, ?_, (hu.kp.trans hu'.kp).mono (fun i _ e => by rcases e with e | e <;> exact e), hu'.size.trans hu.size⟩
    · rw [List.length_append, List.length_singleton] at hr'
      unfold storeCells
      simp [add_lit, hr, hr']
    · have := hu'.blk
      rwa [List.append_assoc, List.singleton_append] at this
theorem Ops.stN {o : Oper} {t b t' : Nat} {x y : Operand} {vs cs : List Value} (ho : o.op = .store t x y) (hd : o.dst = none) (hg : o.guard = none)
    (hs : tyS P t = some cs.length) (hx : ev ρ x = some (.pointer (some ⟨b, 0, none⟩))) (hy : ev ρ y = some (.agg vs.toArray)) (h1 : ∀ v ∈ vs, v.oneCell' = true) (hl : vs.length = cs.length) (hb : Blk w b cs.toArray t')
    (hk : ∀ w', Upd w w' b vs.toArray t' → Ops none P n ds all k Φ l ρ w') : Ops none P n ds all k Φ (o :: l) ρ w := by
  obtain ⟨w', hr', hu⟩ := run_storeCells (P := P) vs [] cs w (by simpa using hb) hl h1
  refine Ops.unit hg hd (fun a hr => ?_) (hk w' (by simpa using hu))
  simp only [execOp, ho, hr.ev hx, hr.ev hy]
  simp [Instr.storeAt, Instr.sureAddr, storeVar, run_sizeOf hs, Value.cells, hl]
  simp at hr'
  rw [hr']
  rfl
theorem run_loadCells {b t' : Nat} : ∀ (rest done : List Value), Blk w b (done ++ rest).toArray t' → (loadCellsFrom ⟨b, 0, none⟩ done.length rest.length done.toArray).run P w = .ok (done ++ rest).toArray w
  | [], done, hb => by simp [loadCellsFrom]
  | v :: rest, done, hb => by
    have hc : w.cell? ⟨b, done.length, none⟩ = some v := hb.cell (by simp)
    have ih := run_loadCells rest (done ++ [v]) (by simpa using hb)
    rw [List.length_append, List.length_singleton] at ih
    simp only [List.length_cons, loadCellsFrom]
    simp [add_lit, load, Sem.run, hc]
    simpa [Sem.run] using ih
/-- The whole of a block of the call's own. -/
theorem EV.ldN {o : Oper} {t b t' : Nat} {x : Operand} {cs : List Value} (ho : o.op = .load t x) (ht : tyAgg P t = some true) (hs : tyS P t = some cs.length) (hx : ev ρ x = some (.pointer (some ⟨b, 0, none⟩))) (hb : Blk w b cs.toArray t') : EV P n ρ w o (.agg cs.toArray) := by
  intro a hr
  have h := run_loadCells (P := P) cs [] (by simpa using hb)
  simp at h
  simp [execOp, ho, Instr.loadAt, Instr.sureAddr, hr.ev hx, loadVar, run_isAgg ht, run_sizeOf hs, loadCells, h]
omit n in
/-- A result of many cells that lies in memory. -/
theorem W.fretCN {fn : Func} {R : Value → World → Prop} {a t b t' : Nat} {cs : List Value} (hres : fn.results = #[.cell a t]) (hl : look ρ a = some (.pointer (some ⟨b, 0, none⟩))) (hs : tyS P t = some cs.length) (hg : tyAgg P t = some true)
    (hb : Blk w b cs.toArray t') (hR : R (.agg cs.toArray) w) : W P fn.ntmps ds (.code .ret :: k) (Fin P fn R) ρ w := by
  refine W.ret ⟨_, fun act hr => ?_, hR⟩
  have h := run_loadCells (P := P) cs [] (by simpa using hb)
  simp at h
  have hsl := hr.slot a _ hl
  rw [Array.getD_eq_getD_getElem?] at hsl
  simp [results, hres, hsl, asAddr, loadVar, run_isAgg hg, run_sizeOf hs, loadCells, h]
end
end Go.Proofs.YtcmjlmnfdncajaaGreatDoor.VW
/- A range over a function of two values, whose rounds may return. -/
namespace Go.Proofs.YtcmjlmnfdncajaaGreatDoor.VW
open Go Go.RowKit
theorem kp_putObj {w : World} {r : Nat} (o : Obj) : Kp (fun k => k = r) w (w.putObj r o) := (Kp.of_grown (grownBy_putObj' w r o)).mono fun k _ e => by cases e; rfl
theorem at_kp {S : Nat → Prop} {w w' : World} {b : Nat} {o : Obj} (h : w.heap[b]? = some o) (k : Kp S w w') (hs : ¬ S b) : w'.heap[b]? = some o := (k.blk b (Array.getElem?_eq_some_iff.1 h).1 hs).trans h
section
variable {P : Program} {n : Nat} {ds : List Deferred} {ρ : E} {w : World} {r : Option Nat}
theorem Wi.ret {Q : Post} (h : Q .ret ρ w) : Wi r P n ds .ret Q ρ w := fun a hr hd => wpIn_ret ⟨ρ, hr, hd, h⟩
theorem round_in2 {fn : FuncId} {tmps : Array Value} {p1 p2 : Nat} {assign body : Code} {D L : Nat} {v1 v2 : Value} {R : Ending → World → Prop} (hL : w.heap[L]? = some (.loop (loopRec fn tmps #[p1, p2] assign body D))) (hr : Rep n { tmps := tmps, defers := [] } ρ) (hp1 : Nat.blt p1 n = true) (hp2 : Nat.blt p2 n = true)
    (h : Wi (some L) P n [] assign (fun e ρ1 w1 => e = .normal ∧ ∃ r, w1.heap[L]? = some (.loop r) ∧ r.state = .ready ∧ Wi (some L) P n [] body (fun e ρ2 w2 => ∃ r2, w2.heap[L]? = some (.loop r2) ∧ ((e = .normal ∧ R (.returned (.bool true)) (w2.putObj L (.loop { r2 with state := .ready, pending := none }))) ∨ (e = .ret ∧ R (.returned (.bool false)) (w2.putObj L (.loop { r2 with state := .done, pending := some .ret }))))) ρ1 (w1.putObj L (.loop { r with state := .busy }))) ((p2, v2) :: (p1, v1) :: ρ) w) :
    YieldAt (Fw none) 0 P L #[v1, v2] w R := by
  refine ⟨fn, _, assign, body, run_yield hL rfl, roundIn_of_wpIn (Fw_fn none fn) ?_⟩
  have hrep : Rep n { tmps := ((#[p1, p2] : Array Tmp).zip #[v1, v2]).foldl (fun tmps (t, a) => tmps.setIfInBounds t a) tmps, defers := [] } ((p2, v2) :: (p1, v1) :: ρ) := by
    have h1 := hr.put (d := some p1) hp1 v1
    have h2 := h1.put (d := some p2) hp2 v2
    simpa [Act.put, VW.put] using h2
  refine wpIn_mono (h _ hrep rfl) ?_
  rintro e a w1 ⟨ρ1, hr1, hd1, rfl, r, hl1, hs1, hb⟩
  refine ⟨_, run_beginRound hl1 hs1, wpIn_mono (hb _ hr1 hd1) ?_⟩
  rintro e a2 w2 ⟨ρ2, hr2, hd2, r2, hl2, ⟨rfl, hR⟩ | ⟨rfl, hR⟩⟩
  · exact ⟨_, _, run_endRound none hl2, hR⟩
  · exact ⟨_, _, run_endRound (some .ret) hl2, hR⟩
/-- A call of yield with two values. -/
theorem OpsI.yield2 {all : Array Oper} {Q : Post} {rest : List Oper} {o : Oper} {d : Nat} {x y1 y2 : Operand} {l : Nat} {v1 v2 : Value} {ts : Array TypeId}
    (ho : o.op = .call { callee := .value x, args := #[y1, y2], argTypes := ts }) (hdst : o.dst = some d) (hlt : Nat.blt d n = true) (hg : o.guard = none)
    (hx : ev ρ x = some (.func (.yield l) #[] #[])) (hy1 : ev ρ y1 = some v1) (hy2 : ev ρ y2 = some v2)
    (hyld : YieldAt (Fw r) 0 P l #[v1, v2] w (fun e w' => ∃ b, e = .returned (.bool b) ∧ OpsI r P n ds all Q rest ((d, .bool b) :: ρ) w')) : OpsI r P n ds all Q (o :: rest) ρ w := by
  intro a hr hd
  unfold wpListIn
  rw [if_pos (by simp [Region.wanted, hg])]
  refine ⟨fun f _ => Fw_fn r f, ?_⟩
  rw [Oper.semAt_eq _ _ _ (by rw [ho]; simp)]
  obtain ⟨fn, tmps, assign, body, hrun, hround⟩ := hyld
  have he : (execOp a.eval o).run P w = .ok (.round l fn tmps assign body) w := by
    have q : #[y1, y2].map a.eval = #[v1, v2] := by simp only [List.map_toArray, List.map_cons, List.map_nil, hr.ev hy1, hr.ev hy2]
    rw [← hrun]
    simp only [execOp, ho, resolve, q]
    simp [hr.ev hx, Deferred.ofValue, invoke]
  rw [he, Oper.uponIn_round]
  refine ⟨fun h => (by rw [Fw_dep] at h; cases h), RoundIn.mono hround fun e w' he => ?_⟩
  obtain ⟨b, rfl, h⟩ := he
  have hput : Rep n (a.put o.dst (.bool b)) ((d, .bool b) :: ρ) := by
    have := hr.put (d := o.dst) (by rw [hdst]; exact hlt) (.bool b)
    rw [hdst] at this ⊢
    exact this
  exact h _ hput (by rw [hdst]; exact hd)
theorem JW.range2 {id : Nat} {g : Operand} {p1 p2 : Nat} {assign body c2 : Code} {gf : Nat} {lb : List Value} {Φ : Post} (hg : ev ρ g = some (.func (.func gf) #[] lb.toArray)) (hgf : callOk P gf = true) (hi2 : inB n c2 = true)
    (h : ∀ fn tmps, Rep n { tmps := tmps, defers := [] } ρ → ∀ D W1, D = w.heap.size → W1 = (w.alloc (.deferred (some []))).alloc (.loop (loopRec fn tmps #[p1, p2] assign body D)) →
      CallsIn (Fw none) 0 P gf (.func (.yield (D + 1)) #[] #[] :: lb).toArray W1 (Ret fun _ W2 => ∃ r, W2.heap[D + 1]? = some (.loop r) ∧ W2.heap[D]? = some (.deferred (some [])) ∧
        ((r.state = .ready ∧ r.pending = none ∧ ∀ W3, W3 = W2.putObj (D + 1) (.loop { r with state := .exhausted }) → W P n ({ target := .collected D, args := #[] } :: ds) [.code c2] (fun e ρ w => e = .ret ∧ w.heap[D]? = some (.deferred (some [])) ∧ Φ .ret ρ (w.putObj D (.deferred none))) ρ W3) ∨
         (r.state = .done ∧ r.pending = some .ret ∧ ∀ W3, W3 = W2.putObj (D + 1) (.loop { r with state := .exhausted }) → W3.heap[D]? = some (.deferred (some [])) ∧ Φ .ret ρ (W3.putObj D (.deferred none)))))) :
    JW P n ds Φ c2 (.block id (.rangeFunc g #[p1, p2] assign body)) ρ w := by
  intro hi a hr hd
  refine (wpIn_wide (n := 0)).1 (wpIn_block (wpIn_rangeFunc fun fn hfn => ?_))
  have hrep : Rep n { tmps := a.tmps, defers := [] } ρ := ⟨hr.size, hr.slot⟩
  have hcall := h fn a.tmps hrep _ _ rfl rfl
  have hev := hr.ev hg
  refine ⟨_, _, _, { target := .fn (.func gf) lb.toArray, args := #[.func (.yield (w.heap.size + 1)) #[] #[]] }, (w.alloc (.deferred (some []))).alloc (.loop (loopRec fn a.tmps #[p1, p2] assign body w.heap.size)), gf, _, _, run_enterLoop_outer _ _ _ _ _, ?_, fun f' _ => trivial, ?_, fun h => (by cases h), CallsIn.mono hcall ?_⟩
  · simp only [resolve, hev]
    simp [go_sem]
  · have hcf := run_callFunc (P := P) (w := (w.alloc (.deferred (some []))).alloc (.loop (loopRec fn a.tmps #[p1, p2] assign body w.heap.size))) (args := (.func (.yield (w.heap.size + 1)) #[] #[] :: lb).toArray) hgf
    have e : (Value.func (.yield (w.heap.size + 1)) #[] #[] :: lb).toArray = #[.func (.yield (w.heap.size + 1)) #[] #[]] ++ lb.toArray := by simp
    rw [e] at hcf ⊢
    simpa [invoke] using hcf
  · rintro e W2 ⟨v, rfl, r, hl, hD, ⟨hs, hp, hw⟩ | ⟨hs, hp, hw⟩⟩
    · obtain ⟨st, pe, q1, q2, q3, q4, q5, q6⟩ := r
      simp only at hs hp
      subst hp
      refine ⟨none, _, run_endLoop (P := P) hl (by simp [hs]), ?_⟩
      show c2.wp P _ _ _
      have hw' := hw _ rfl hi2 { a with defers := { target := .collected w.heap.size, args := #[] } :: a.defers } ⟨hr.size, hr.slot⟩ (by rw [hd])
      refine wp_mono hw' ?_
      rintro e a3 w3 ⟨ρ3, hr3, hl3⟩
      cases e with
      | ret =>
        obtain ⟨w4, hm, _, hD3, hΦ⟩ := hl3
        exact ⟨ρ3, hr3, _, hm.trans (.cons hD3 (.nil _ _)), Qof.ret hΦ⟩
      | _ => exact absurd hl3.2.1 (by simp)
    · obtain ⟨st, pe, q1, q2, q3, q4, q5, q6⟩ := r
      simp only at hs hp
      subst hp
      refine ⟨some .ret, _, run_endLoop (P := P) hl (by simp [hs]), ?_⟩
      obtain ⟨hD3, hΦ⟩ := hw _ rfl
      refine wpIn_ret ?_
      exact ⟨ρ, ⟨hr.size, hr.slot⟩, _, by rw [hd]; exact .cons hD3 (.nil _ _), Qof.ret hΦ⟩
end
end Go.Proofs.YtcmjlmnfdncajaaGreatDoor.VW
/- Drawn regions: effects in any order, with reads of what stands. -/
namespace Go.Proofs.YtcmjlmnfdncajaaGreatDoor.VW
open Go Go.RowKit
section
variable {P : Program} [hT : Tab P] {n : Nat} {ds : List Deferred} {Φ : Post} {k : List It} {ρ : E} {w : World} {all : Array Oper} {l : List Oper} {md : Option (List Oper)} {F : World → Prop} {π : List Nat} {L : List Bool}
def OrdF (P : Program) (n : Nat) (ds : List Deferred) (all : Array Oper) (k : List It) (Φ : Post) (F : World → Prop) (π : List Nat) (L : List Bool) (ρ : E) (w : World) : Prop :=
  Region.noSelect all = true → (all.toList.all fun o => dOk n o.dst) = true → Cl .any all L.toArray → (∀ c ρ w, (Φ (.panic c) ρ w → Φ (.panic c) [] w)) → F w → ∀ a, Rep n a ρ → a.defers = ds → wpAnyI P .any all (lift n ds (Qof P n ds Φ k)) (fun _ w => F w) π.length L.toArray a w
def freeB (all : Array Oper) (L : List Bool) (i : Nat) : Bool := Region.free .any all L.toArray i && (Region.ready .any all L.toArray).contains i
omit hT in
theorem OrdF.take {i d : Nat} {o : Oper} {v : Value} {c : Bool} (hp : freeB all L i = true) (ho : all[i]? = some o) (hd : o.dst = some d) (hg : gdB all ρ o.guard = some c) (hgc : c = true) (hev : ∀ w, F w → EV P n ρ w o v)
    (h : OrdF P n ds all k Φ F π (L.set i true) ((d, v) :: ρ) w) : OrdF P n ds all k Φ F (i :: π) L ρ w := by
  subst hgc
  intro hs hdo hcl hΦ hF a hr hds
  simp only [freeB, Bool.and_eq_true] at hp
  have hdn : dOk n o.dst = true := by
    rw [List.all_eq_true] at hdo
    exact hdo o (by rw [← Array.getElem?_toList] at ho; exact List.mem_of_getElem? ho)
  refine wpAnyI_take ho hs hp.1 hp.2 (fun c a w hq => lift_pan hΦ hq) (fun _ _ => Iff.rfl) (G := F) (fun _ _ _ _ h => h) hcl (v := v) (.inl ⟨gdB_wanted hg hr, fun w' hw' => hev w' hw' a hr⟩) hF ?_
  have := h hs hdo (by rw [← List.setIfInBounds_toArray]; exact hcl.set (by simpa using hp.2)) hΦ hF (a.put o.dst v) (by have := hr.put hdn v; rw [hd] at this ⊢; exact this) (by rw [hd]; exact hds)
  rw [List.setIfInBounds_toArray]
  exact this
omit hT in
theorem OrdF.one_ {i : Nat} {o : Oper} (ho : all[i]? = some o) (hr : (Region.ready .any all L.toArray).contains i = true)
    (h : Ops none P n ds all (.lp (fun ρ1 w1 => F w1 ∧ OrdF P n ds all k Φ F π (L.set i true) ρ1 w1) :: k) Φ [o] ρ w) (hs : Region.noSelect all = true) (hdo : (all.toList.all fun o => dOk n o.dst) = true) (hcl : Cl .any all L.toArray) (hΦ : ∀ c ρ w, (Φ (.panic c) ρ w → Φ (.panic c) [] w)) {a : Act} (har : Rep n a ρ) (hds : a.defers = ds) :
    wpOp P all (lift n ds (Qof P n ds Φ k)) i (fun a' w' => F w' ∧ wpAnyI P .any all (lift n ds (Qof P n ds Φ k)) (fun _ w => F w) π.length (L.toArray.setIfInBounds i true) a' w') a w := by
  have hdn : dOk n o.dst = true := by
    rw [List.all_eq_true] at hdo
    exact hdo o (by rw [← Array.getElem?_toList] at ho; exact List.mem_of_getElem? ho)
  have h' : wpList P all (lift n ds (Qof P n ds Φ (.lp (fun ρ1 w1 => F w1 ∧ OrdF P n ds all k Φ F π (L.set i true) ρ1 w1) :: k))) [o] a w := h (by simp [hdn]) a har hds
  have hcl' : Cl .any all (L.set i true).toArray := by rw [← List.setIfInBounds_toArray]; exact hcl.set (by simpa using hr)
  have hK : ∀ a' w', wpList P all (lift n ds (Qof P n ds Φ (.lp (fun ρ1 w1 => F w1 ∧ OrdF P n ds all k Φ F π (L.set i true) ρ1 w1) :: k))) [] a' w' → F w' ∧ wpAnyI P .any all (lift n ds (Qof P n ds Φ k)) (fun _ w => F w) π.length (L.toArray.setIfInBounds i true) a' w' := by
    rintro a' w' ⟨ρ1, hr1, hd1, hF1, hO⟩
    rw [List.setIfInBounds_toArray]
    exact ⟨hF1, hO hs hdo hcl' hΦ hF1 a' hr1 hd1⟩
  have hq : ∀ c a w, lift n ds (Qof P n ds Φ (.lp (fun ρ1 w1 => F w1 ∧ OrdF P n ds all k Φ F π (L.set i true) ρ1 w1) :: k)) (.panic c) a w → lift n ds (Qof P n ds Φ k) (.panic c) a w := fun _ _ _ h => h
  unfold wpList at h'
  unfold wpOp
  simp only [ho]
  split
  · rename_i hw
    rw [if_pos hw] at h'
    rcases h' with h' | ⟨h1, a', w', h2⟩
    · left
      unfold Oper.wp at h' ⊢
      generalize (execOp a.eval o).run P w = r at *
      cases r with
      | ok nx w' =>
        cases nx <;> simp only [Oper.upon] at h' ⊢
        case value v => exact hK _ _ h'
        case skip => exact hK _ _ h'
        case defer d => exact hK _ _ h'
        case enter f args =>
          refine h'.mono fun e w'' he => ?_
          cases e with
          | returned v => exact hK _ _ he
          | panicked ch => exact hq _ _ _ he
          | outgrown => obtain ⟨a, w, ho⟩ := he; exact ⟨a, w, ho⟩
        case row r args => exact h'.mono fun v w'' hv => hK _ _ hv
      | halt x w' =>
        cases x <;> simp only [Oper.upon] at h' ⊢
        exact hq _ _ _ h'
    · exact .inr ⟨h1, a', w', h2⟩
  · rename_i hw
    rw [if_neg hw] at h'
    exact hK _ _ h'
omit hT in
/-- Two effects, in either order. -/
theorem OrdF.both {q : Nat} {oi oj : Oper} (i j : Nat) (hr : (Region.ready .any all L.toArray == [i, j]) = true) (hoi : all[i]? = some oi) (hoj : all[j]? = some oj)
    (h1 : Ops none P n ds all (.lp (fun ρ1 w1 => F w1 ∧ OrdF P n ds all k Φ F π (L.set i true) ρ1 w1) :: k) Φ [oi] ρ w)
    (h2 : Ops none P n ds all (.lp (fun ρ1 w1 => F w1 ∧ OrdF P n ds all k Φ F π (L.set j true) ρ1 w1) :: k) Φ [oj] ρ w) : OrdF P n ds all k Φ F (q :: π) L ρ w := by
  have hr := eq_of_beq hr
  intro hs hdo hcl hΦ hF a har hds
  refine wpAnyI_all hr (by simp) fun q hq => ?_
  simp only [List.mem_cons, List.not_mem_nil, or_false] at hq
  rcases hq with rfl | rfl
  · exact OrdF.one_ hoi (by rw [hr]; simp) h1 hs hdo hcl hΦ har hds
  · exact OrdF.one_ hoj (by rw [hr]; simp) h2 hs hdo hcl hΦ har hds
omit hT in
theorem OrdF.one {q : Nat} {oi : Oper} (i : Nat) (hr : (Region.ready .any all L.toArray == [i]) = true) (hoi : all[i]? = some oi)
    (h1 : Ops none P n ds all (.lp (fun ρ1 w1 => F w1 ∧ OrdF P n ds all k Φ F π (L.set i true) ρ1 w1) :: k) Φ [oi] ρ w) : OrdF P n ds all k Φ F (q :: π) L ρ w := by
  have hr := eq_of_beq hr
  intro hs hdo hcl hΦ hF a har hds
  refine wpAnyI_all hr (by simp) fun q hq => ?_
  simp only [List.mem_singleton] at hq
  subst hq
  exact OrdF.one_ hoi (by rw [hr]; simp) h1 hs hdo hcl hΦ har hds
omit hT in
theorem OrdF.done (hr : (Region.ready .any all L.toArray).isEmpty = true) (h : W P n ds k Φ ρ w) : OrdF P n ds all k Φ F π L ρ w := fun _ _ _ _ _ a har hds => wpAnyI_done (by simpa using hr) ⟨ρ, har, LiftD.mk hds h⟩ _
omit hT in
theorem W.ordF {id : Nat} {ops : Array Oper} (F : World → Prop) (π : List Nat) (hm : P.follows .mixedOrders = true) (hs : Region.noSelect ops = true) (hlen : π.length = ops.size) (hΦ : ∀ c ρ w, (Φ (.panic c) ρ w → Φ (.panic c) [] w))
    (h : ∀ w', Kp (fun _ => False) w w' → w'.heap = w.heap → F w' ∧ OrdF P n ds ops k Φ F π (List.replicate π.length false) ρ w') : W P n ds (.code (.region id ops true) :: k) Φ ρ w := by
  intro hi a hr hd
  refine wp_region_I (S := fun _ w => F w) hm ?_
  obtain ⟨hF, h⟩ := h _ (kp_drew w) rfl
  have := h hs (by simpa [inB] using hi) (by rw [List.toArray_replicate]; exact Cl.start _) hΦ hF a hr hd
  rw [← hlen]
  rw [List.toArray_replicate] at this
  exact this
omit hT in
theorem Wi.ordF {r : Option Nat} {id : Nat} {ops : Array Oper} {Q : Post} (F : World → Prop) (π : List Nat) (hm : P.follows .mixedOrders = true) (hi : (ops.toList.all fun o => dOk n o.dst) = true) (hdf : noDefer ops.toList = true) (hs : Region.noSelect ops = true) (hlen : π.length = ops.size)
    (h : ∀ w', Kp (fun _ => False) w w' → w'.heap = w.heap → F w' ∧ OrdF P n ds ops [.lp (Q .normal)] (fun _ _ _ => False) F π (List.replicate π.length false) ρ w') : Wi r P n ds (.region id ops true) Q ρ w := by
  intro a hr hd
  refine wpIn_region_any hm ?_
  obtain ⟨hF, h⟩ := h _ (kp_drew w) rfl
  have := h hs hi (by rw [List.toArray_replicate]; exact Cl.start _) (fun _ _ _ h => h) hF a hr hd
  rw [List.toArray_replicate, hlen] at this
  exact anyIn (fun c a w h => by obtain ⟨_, _, h⟩ := h; exact h.2) (fun h => by obtain ⟨_, _, _, _, h⟩ := h; exact h.2) (fun a w h => by obtain ⟨ρ', h1, h2, h3⟩ := h; exact ⟨ρ', h1, h2, h3⟩) hdf _ _ _ _ (wpAny_of_I _ _ _ _ this)
theorem f_p {i d : Nat} {o : Oper} {c : Bool} {v : Value} (ho : all[i]? = some o := by exact rfl) (hd : o.dst = some d := by exact rfl) (hg : gdB all ρ o.guard = some c := by exact rfl) (hgc : c = true := by exact rfl) (hv : pureV ρ o.op = some v := by exact rfl) (hp : freeB all L i = true := by kernel_rfl)
    (kk : OrdF P n ds all k Φ F π (L.set i true) ((d, v) :: ρ) w) : OrdF P n ds all k Φ F (i :: π) L ρ w := OrdF.take hp ho hd hg hgc (fun _ _ => EV.pu hv) kk
theorem f_a {i d : Nat} {o : Oper} {c : Bool} {x : Int} (ho : all[i]? = some o := by exact rfl) (hd : o.dst = some d := by exact rfl) (hg : gdB all ρ o.guard = some c := by exact rfl) (hgc : c = true := by exact rfl) (hv : arV ρ o.op = some x := by exact rfl) (hb : -9223372036854775808 ≤ x ∧ x ≤ 9223372036854775807 := by omega) (hp : freeB all L i = true := by kernel_rfl)
    (kk : OrdF P n ds all k Φ F π (L.set i true) ((d, (.int .i64 x)) :: ρ) w) : OrdF P n ds all k Φ F (i :: π) L ρ w := OrdF.take hp ho hd hg hgc (fun _ _ => EV.ar hv hb) kk
theorem f_l {i d : Nat} {o : Oper} {c : Bool} {t e m c2 : Nat} {x : Operand} {A : Option Addr} (ho : all[i]? = some o := by exact rfl) (hd : o.dst = some d := by exact rfl) (hg : gdB all ρ o.guard = some c := by exact rfl) (hgc : c = true := by exact rfl) (h1 : o.op = .call { callee := .builtin .len, args := #[x], argTypes := #[t] } := by exact rfl) (h2 : tyD P t = some (.slice e) := by exact rfl) (h3 : ev ρ x = some (.slice A m c2) := by exact rfl) (hp : freeB all L i = true := by kernel_rfl)
    (kk : OrdF P n ds all k Φ F π (L.set i true) ((d, (.int .i64 m)) :: ρ) w) : OrdF P n ds all k Φ F (i :: π) L ρ w := OrdF.take hp ho hd hg hgc (fun _ _ => EV.len h1 h2 h3) kk
theorem f_B {i d t : Nat} {o : Oper} {x y : Operand} {c : Bool} {u v z0 z1 : Value} (h0 : all[i]? = some o := by exact rfl) (hd : o.dst = some d := by exact rfl) (hg : gdB all ρ o.guard = some c := by exact rfl) (hgc : c = true := by exact rfl) (ho : o.op = .build t #[(0, x), (1, y)] := by exact rfl)
    (ht : tyD P t = some (.struct [(0, 1), (1, 1)]) := by exact rfl) (hz : tyZ P t = some (.agg #[z0, z1]) := by exact rfl) (hx : ev ρ x = some u := by exact rfl) (hy : ev ρ y = some v := by exact rfl) (h1 : u.oneCell' = true := by exact rfl) (h2 : v.oneCell' = true := by exact rfl) (hp : freeB all L i = true := by kernel_rfl)
    (kk : OrdF P n ds all k Φ F π (L.set i true) ((d, .agg #[u, v]) :: ρ) w) : OrdF P n ds all k Φ F (i :: π) L ρ w := OrdF.take hp h0 hd hg hgc (fun _ _ => EV.bld2 ho ht hz hx hy h1 h2) kk
theorem f_S {i d j t t' : Nat} {o : Oper} {x y : Operand} {c : Bool} (h0 : all[i]? = some o := by exact rfl) (hd : o.dst = some d := by exact rfl) (hg : gdB all ρ o.guard = some c := by exact rfl) (hgc : c = true := by exact rfl) (ho : o.op = .binOp .shl t x y t' := by exact rfl) (hx : ev ρ x = some (.int .i64 1) := by exact rfl) (hy : ev ρ y = some (.int .i64 (j : Int)) := by exact rfl) (hj : j ≤ 60 := by omega) (hp : freeB all L i = true := by kernel_rfl)
    (kk : OrdF P n ds all k Φ F π (L.set i true) ((d, .int .i64 ((2 ^ j : Nat) : Int)) :: ρ) w) : OrdF P n ds all k Φ F (i :: π) L ρ w := OrdF.take hp h0 hd hg hgc (fun _ _ => EV.bsh ho hx hy (m_shl hj)) kk
theorem f_D {i d t b q t' : Nat} {o : Oper} {x : Operand} {cs : Array Value} {v : Value} {w0 : World} {c : Bool} (h1 : all[i]? = some o := by exact rfl) (ho : o.op = .load t x := by exact rfl) (hd : o.dst = some d := by exact rfl) (hg : gdB all ρ o.guard = some c := by exact rfl) (hgc : c = true := by exact rfl)
    (ht : tyAgg P t = some false := by exact rfl) (hx : ev ρ x = some (.pointer (some ⟨b, q, none⟩)) := by exact rfl) (hb : Blk w0 b cs t' := by assumption) (hF : ∀ w, F w → Below w0.heap.size w0 w := by first | exact fun _ h => h | (intro _ h; exact Below.via (by assumption) h)) (hi : nth cs.toList q = some v := by exact rfl) (hp : freeB all L i = true := by kernel_rfl)
    (kk : OrdF P n ds all k Φ F π (L.set i true) ((d, v) :: ρ) w) : OrdF P n ds all k Φ F (i :: π) L ρ w :=
  OrdF.take hp h1 hd hg hgc (fun w hFw => EV.ld ho ht hx ((hb.kp (Kp.of_below (S := fun _ => False) (hF w hFw)) (fun e => e)).cell (by rw [nth_eq, Array.getElem?_toList] at hi; exact hi))) kk
theorem f_K {i1 i2 d1 d2 t t' e : Nat} {o1 o2 : Oper} {x y : Operand} {v : Value} {i : Int} {xs : List Int} {w0 : World} {c1 c2 : Bool} (h1 : all[i1]? = some o1 := by exact rfl) (ho : o1.op = .indexAddr t x y := by exact rfl) (hd1 : o1.dst = some d1 := by exact rfl) (hg1 : gdB all ρ o1.guard = some c1 := by exact rfl) (hc1 : c1 = true := by exact rfl) (h2 : all[i2]? = some o2 := by exact rfl) (ho2 : o2.op = .load t' (.tmp d1) := by exact rfl) (hd2 : o2.dst = some d2 := by exact rfl) (hg2 : ∀ p, gdB all ((d1, .pointer p) :: ρ) o2.guard = some c2 := by exact fun _ => rfl) (hc2 : c2 = true := by exact rfl)
    (ht : tyD P t = some (.slice e) := by exact rfl) (hs : tyS P e = some 1 := by exact rfl) (ha : tyAgg P t' = some false := by exact rfl) (hx : ev ρ x = some v := by exact rfl) (hy : ev ρ y = some (.int .i64 i) := by exact rfl) (hsl : SlI w0 v xs := by first | assumption | exact OI.sl (by assumption)) (hF : ∀ w, F w → Below w0.heap.size w0 w := by first | exact fun _ h => h | (intro _ h; exact Below.via (by assumption) h)) (h0 : 0 ≤ i := by omega) (hi : i < xs.length := by omega) (hp1 : freeB all L i1 = true := by kernel_rfl) (hp2 : freeB all (L.set i1 true) i2 = true := by kernel_rfl)
    (kk : ∀ p, OrdF P n ds all k Φ F π ((L.set i1 true).set i2 true) ((d2, Value.int .i64 (xs.getD i.toNat 0)) :: (d1, p) :: ρ) w) : OrdF P n ds all k Φ F (i1 :: i2 :: π) L ρ w := by
  obtain ⟨hm, A, c, rfl, h⟩ := hsl
  obtain ⟨a, rfl, hc⟩ := h (by omega)
  refine OrdF.take hp1 h1 hd1 hg1 hc1 (fun w _ => EV.idx ho ht hs hx hy h0 hi) ?_
  rw [Nat.mul_one]
  refine OrdF.take hp2 h2 hd2 (hg2 _) hc2 (fun w' hw' => EV.ld ho2 ha (ev_top _ _ _) ?_) (kk _)
  have := cell_kp (Kp.of_below (S := fun _ => False) (hF w' hw')) (hc i.toNat (by omega)) (fun e => e)
  exact this
theorem f_r {i1 i2 d1 d2 t s' t' : Nat} {o1 o2 : Oper} {x y : Operand} {v : Value} {i : Int} {c : List (List Int)} {w0 : World} {c1 c2 : Bool} (e1 : all[i1]? = some o1 := by exact rfl) (h1 : o1.op = .indexAddr t x y := by exact rfl) (hd1 : o1.dst = some d1 := by exact rfl) (hg1 : gdB all ρ o1.guard = some c1 := by exact rfl) (hc1 : c1 = true := by exact rfl) (e2 : all[i2]? = some o2 := by exact rfl) (h2 : o2.op = .load t' (.tmp d1) := by exact rfl) (hd2 : o2.dst = some d2 := by exact rfl) (hg2 : ∀ p, gdB all ((d1, .pointer p) :: ρ) o2.guard = some c2 := by exact fun _ => rfl) (hc2 : c2 = true := by exact rfl)
    (ht : tyD P t = some (.slice s') := by exact rfl) (hs : tyS P s' = some 1 := by exact rfl) (ha : tyAgg P t' = some false := by exact rfl) (hx : ev ρ x = some v := by exact rfl) (hy : ev ρ y = some (.int .i64 i) := by exact rfl) (htr : RowsM w0 v c := by assumption) (hF : ∀ w, F w → Below w0.heap.size w0 w := by first | exact fun _ h => h | (intro _ h; exact Below.via (by assumption) h)) (h0 : 0 ≤ i := by omega) (hi : i < c.length := by omega) (hp1 : freeB all L i1 = true := by kernel_rfl) (hp2 : freeB all (L.set i1 true) i2 = true := by kernel_rfl)
    (kk : ∀ A m p, SlI w0 (.slice A (row c i).length m) (row c i) → OrdF P n ds all k Φ F π ((L.set i1 true).set i2 true) ((d2, .slice A (row c i).length m) :: (d1, p) :: ρ) w) : OrdF P n ds all k Φ F (i1 :: i2 :: π) L ρ w := by
  obtain ⟨a, m, A', m', rfl, hsl, hcell⟩ := htr.at_ h0 hi
  exact OrdF.take hp1 e1 hd1 hg1 hc1 (fun w _ => EV.idx h1 ht hs hx hy h0 hi) (OrdF.take hp2 e2 hd2 (hg2 _) hc2 (fun w hw => EV.ld h2 ha (ev_top _ _ _) (hcell w (hF w hw))) (kk _ _ _ hsl))
end
end Go.Proofs.YtcmjlmnfdncajaaGreatDoor.VW
/- A table of the call's own, row by row. -/
namespace Go.Proofs.YtcmjlmnfdncajaaGreatDoor.VW
open Go Go.RowKit
theorem OrdF.sub {P : Program} {n : Nat} {ds : List Deferred} {Φ : Post} {k : List It} {ρ ρ' : E} {w : World} {all : Array Oper} {F : World → Prop} {π : List Nat} {L : List Bool} (hs : Sub ρ' ρ) (h : OrdF P n ds all k Φ F π L ρ' w) : OrdF P n ds all k Φ F π L ρ w :=
  fun h1 h2 h3 h4 h5 a hr hd => h h1 h2 h3 h4 h5 a (hr.sub hs) hd
theorem OrdF.cut {P : Program} {n : Nat} {ds : List Deferred} {Φ : Post} {k : List It} {ρ : E} {w : World} {all : Array Oper} {F : World → Prop} {π π' : List Nat} {L L' : List Bool} (C : E → World → Prop) (h1 : (∀ ρ1 w1, C ρ1 w1 → OrdF P n ds all k Φ F π' L' ρ1 w1) → OrdF P n ds all k Φ F π L ρ w) (h2 : ∀ ρ1 w1, C ρ1 w1 → OrdF P n ds all k Φ F π' L' ρ1 w1) : OrdF P n ds all k Φ F π L ρ w := h1 h2
theorem OrdF.re {P : Program} {n : Nat} {ds : List Deferred} {Φ : Post} {k : List It} {ρ : E} {w : World} {all : Array Oper} {F : World → Prop} {π : List Nat} (π' : List Nat) {L : List Bool} (he : π'.length = π.length) (h : OrdF P n ds all k Φ F π' L ρ w) : OrdF P n ds all k Φ F π L ρ w := by unfold OrdF at *; rw [← he]; exact h
structure RW (w0 w : World) (ov : Value) (cvs : List Value) (n : Nat) (T : Nat → List Int) : Prop where
  o : OI 23 (fun v : Value => v) w0 w ov cvs
  len : cvs.length = n
  rows : ∀ j, j < n → OI 3 (Value.int .i64) w0 w (cvs.getD j undef) (T j)
  apart : ∀ j, j < n → ∀ b, (cvs.getD j undef).ownBlock = some b → ov.ownBlock ≠ some b ∧ ∀ k, k < n → k ≠ j → (cvs.getD k undef).ownBlock ≠ some b
theorem RW.kp {w0 w w' : World} {ov : Value} {cvs : List Value} {n : Nat} {T : Nat → List Int} {S : Nat → Prop} (h : RW w0 w ov cvs n T) (k : Kp S w w') (hs : ∀ i, S i → w0.heap.size ≤ i ∧ ov.ownBlock ≠ some i ∧ ∀ j, j < n → (cvs.getD j undef).ownBlock ≠ some i) : RW w0 w' ov cvs n T :=
  ⟨h.o.kp k (fun i hi => ⟨(hs i hi).1, (hs i hi).2.1⟩), h.len, fun j hj => (h.rows j hj).kp k (fun i hi => ⟨(hs i hi).1, (hs i hi).2.2 j hj⟩), h.apart⟩
theorem RW.below {w0 w w' : World} {ov : Value} {cvs : List Value} {n : Nat} {T : Nat → List Int} (h : RW w0 w ov cvs n T) (k : Below w.heap.size w w') : RW w0 w' ov cvs n T := h.kp (Kp.of_below (S := fun _ => False) k) (fun _ e => e.elim)
theorem RW.up {w0 w1 w : World} {ov : Value} {cvs : List Value} {n : Nat} {T : Nat → List Int} (h : RW w1 w ov cvs n T) (k : Below w0.heap.size w0 w1) : RW w0 w ov cvs n T := ⟨h.o.up k, h.len, fun j hj => (h.rows j hj).up k, h.apart⟩
theorem setV_eq {α : Type} {os : List α} {i : Nat} {x d : α} (h : i < os.length) : (os.set i x).getD i d = x := by simp [List.getD_eq_getElem?_getD, h]
theorem setV_ne {α : Type} {os : List α} {i j : Nat} {x d : α} (h : i ≠ j) : (os.set i x).getD j d = os.getD j d := by simp [List.getD_eq_getElem?_getD, List.getElem?_set_ne h]
theorem RW.step {w0 w w1 w2 : World} {ov rv : Value} {cvs : List Value} {n i : Nat} {T : Nat → List Int} {u : Int} (h : RW w0 w ov cvs n T) (hi : i < n) (hO1 : OI 3 (Value.int .i64) w0 w1 rv (T i ++ [u])) (k1 : Kp (fun b => (cvs.getD i undef).ownBlock = some b) w w1)
    (hn : ∀ b, rv.ownBlock = some b → (cvs.getD i undef).ownBlock = some b ∨ w.heap.size ≤ b) (hO2 : OI 23 (fun v : Value => v) w0 w2 ov (cvs.set i rv)) (k2 : Kp (fun b => ov.ownBlock = some b) w1 w2) : RW w0 w2 ov (cvs.set i rv) n (fun q => if q = i then T i ++ [u] else T q) := by
  have hl := h.len
  have hlt : ∀ v : Value, ∀ b, (∀ xs : List Int, OI 3 (Value.int .i64) w0 w v xs → v.ownBlock = some b → b < w.heap.size) := fun v b xs hO hb => (hO.own.lt b hb).2
  have hov : ∀ b, rv.ownBlock = some b → ov.ownBlock ≠ some b := fun b hb e => by
    rcases hn b hb with h1 | h1
    · exact (h.apart i hi b h1).1 e
    · have := (h.o.own.lt b e).2; omega
  refine ⟨hO2, by simp [hl], fun j hj => ?_, fun j hj b hb => ?_⟩
  · by_cases e : j = i
    · subst e
      rw [setV_eq (by omega), if_pos rfl]
      exact hO1.kp k2 (fun b hb => ⟨h.o.ge b hb, fun e => hov b e hb⟩)
    · rw [setV_ne (fun h => e h.symm), if_neg e]
      exact ((h.rows j hj).kp k1 (fun b hb => ⟨(h.rows i hi).ge b hb, fun e2 => (h.apart i hi b hb).2 j hj e e2⟩)).kp k2 (fun b hb => ⟨h.o.ge b hb, fun e2 => (h.apart j hj b e2).1 hb⟩)
  · by_cases e : j = i
    · subst e
      rw [setV_eq (by omega)] at hb
      refine ⟨hov b hb, fun k hk hkj e2 => ?_⟩
      rw [setV_ne (fun h => hkj h.symm)] at e2
      rcases hn b hb with h1 | h1
      · exact (h.apart j hj b h1).2 k hk hkj e2
      · have := hlt _ b _ (h.rows k hk) e2; omega
    · rw [setV_ne (fun h => e h.symm)] at hb
      refine ⟨(h.apart j hj b hb).1, fun k hk hkj e2 => ?_⟩
      by_cases e3 : k = i
      · subst e3
        rw [setV_eq (by omega)] at e2
        rcases hn b e2 with h1 | h1
        · exact (h.apart j hj b hb).2 k hk hkj h1
        · have := hlt _ b _ (h.rows j hj) hb; omega
      · rw [setV_ne (fun h => e3 h.symm)] at e2
        exact (h.apart j hj b hb).2 k hk hkj e2
theorem RW.rowsM {w0 w : World} {ov : Value} {cvs : List Value} {n : Nat} {T : Nat → List Int} (h : RW w0 w ov cvs n T) : RowsM w ov ((List.range n).map T) := by
  obtain ⟨hl, A, k, rfl, hc⟩ := h.o.sl (z := undef)
  have hlen := h.len
  refine ⟨by simp; omega, A, k, cvs, by simp [hlen], fun hp => ?_, fun j hj => ?_⟩
  · obtain ⟨a, rfl, hcc⟩ := hc (by simp at hp; omega)
    exact ⟨a, rfl, fun j hj => hcc j (by simp at hj; omega)⟩
  · simp at hj
    have : ((List.range n).map T).getD j [] = T j := by simp [List.getD_eq_getElem?_getD, hj]
    rw [this]
    exact (h.rows j hj).sl
end Go.Proofs.YtcmjlmnfdncajaaGreatDoor.VW
/- Sets as maps whose length is asked for; append behind a slice that is full; slices of arrays. -/
namespace Go.Proofs.YtcmjlmnfdncajaaGreatDoor.VW
open Go Go.RowKit
def addL (ks : List Int) (x : Int) : List Int := if ks.contains x then ks else ks ++ [x]
/-- Block b is a map in which just the numbers of ks stand, with true. -/
def MapL (w : World) (b : Nat) (ks : List Int) : Prop := ∃ (es : Array MapEntry) (c : Nat), w.heap[b]? = some (.map es c) ∧ es.toList.map (fun e => (e.key, e.val)) = ks.map kvI
theorem MapL.kp {w w' : World} {b : Nat} {ks : List Int} {S : Nat → Prop} (h : MapL w b ks) (k : Kp S w w') (hs : ¬ S b) : MapL w' b ks := by
  obtain ⟨es, c, hb, h1⟩ := h
  exact ⟨es, c, by rw [k.blk b (Array.getElem?_eq_some_iff.1 hb).1 hs]; exact hb, h1⟩
theorem MapL.below {w w' : World} {b : Nat} {ks : List Int} (h : MapL w b ks) (k : Below w.heap.size w w') : MapL w' b ks := h.kp (Kp.of_below (S := fun _ => False) k) (fun e => e)
theorem MapL.lt {w : World} {b : Nat} {ks : List Int} (h : MapL w b ks) : b < w.heap.size := by
  obtain ⟨es, c, hb, h1⟩ := h
  exact (Array.getElem?_eq_some_iff.1 hb).1
section
variable {P : Program} [hT : Tab P] {n : Nat} {ds : List Deferred} {Φ : Post} {k : List It} {ρ : E} {w : World} {all : Array Oper} {l : List Oper} {md : Option (List Oper)}
theorem Ops.mkL {o : Oper} {d t : Nat} (ho : o.op = .makeMap t none) (hd : o.dst = some d) (hg : o.guard = none)
    (hk : ∀ w' r, MapL w' r [] → Kp (fun _ => False) w w' → r = w.heap.size → Ops none P n ds all k Φ l ((d, .map (some r)) :: ρ) w') : Ops none P n ds all k Φ (o :: l) ρ w := by
  have hm := mk_alloc w (.map #[] 0)
  refine Ops.val hd hg (fun a hr => ?_) (hk _ _ ⟨#[], 0, hm.at_, rfl⟩ hm.kp rfl)
  have hm' : (Instr.makeMap t none).run P w = .ok (.map (some w.heap.size)) (w.alloc (.map #[] 0)) := rfl
  simp [execOp, ho, hm']
theorem run_putL {t kt et r : Nat} {x : Int} {ks : List Int} (ht : tyD P t = some (.map kt et)) (hk : tyD P kt = some (.int .i64)) (hm : MapL w r ks) :
    ∃ w', (Instr.mapUpdate t (.map (some r)) (.int .i64 x) (.bool true)).run P w = .ok () w' ∧ MapL w' r (addL ks x) ∧ Kp (fun i => i = r) w w' ∧ w'.heap.size = w.heap.size := by
  obtain ⟨es, c, hb, h1⟩ := hm
  have hu := td_map (tyD_ok ht)
  have huk := td_int (tyD_ok hk)
  have hlt := (Array.getElem?_eq_some_iff.1 hb).1
  cases hf : ks.contains x with
  | true =>
    obtain ⟨j, _, h3, h4⟩ := findNow_in (i := 0) h1 hf
    rw [Nat.sub_zero, Array.getElem?_toList] at h4
    refine ⟨_, ?_, ?_, kp_setObj r (.map (es.modify j fun e => { e with key := .int .i64 x, val := .bool true }) c), by simp⟩
    · simp [Instr.mapUpdate, run_und hu, run_getObj_m hb, run_checkKey_int huk, run_findKey_int huk h3]
      rw [h4]
      simp [run_stay, run_setObj_m _ hb]
    · unfold addL
      rw [if_pos hf]
      refine ⟨es.modify j fun e => { e with key := .int .i64 x, val := .bool true }, c, by simp [hlt], ?_⟩
      rw [← h1]
      apply List.ext_getElem?
      intro i
      simp only [List.getElem?_map, Array.getElem?_toList, Array.getElem?_modify]
      split
      · rename_i e
        subst e
        obtain ⟨hj1, hj2⟩ : ∃ e, es[j]? = some e ∧ e.key = .int .i64 x := by
          cases he : es[j]? with
          | none => rw [he] at h4; simp at h4
          | some e => rw [he] at h4; simp at h4; exact ⟨e, rfl, h4⟩
        have hv : (es.toList.map fun e => (e.key, e.val))[j]? = (ks.map kvI)[j]? := by rw [h1]
        simp only [List.getElem?_map, Array.getElem?_toList, hj2.1, Option.map_some] at hv
        rw [hj2.1]
        simp only [Option.map_some, Option.some.injEq]
        cases hq : ks[j]? with
        | none => rw [hq] at hv; simp at hv
        | some q => rw [hq] at hv; simp [kvI] at hv; rw [hj2.2, hv.2]
      · rfl
  | false =>
    have h3 := findNow_out (i := 0) h1 hf
    refine ⟨_, ?_, ?_, kp_setObj r (.map (es.push { key := .int .i64 x, val := .bool true, born := c }) (c + 1)), by simp⟩
    · simp [Instr.mapUpdate, run_und hu, run_getObj_m hb, run_checkKey_int huk, run_findKey_int huk h3, run_setObj_m _ hb]
    · unfold addL
      rw [hf]
      exact ⟨es.push { key := .int .i64 x, val := .bool true, born := c }, c + 1, by simp [hlt], by simp [h1, kvI]⟩
theorem Ops.putL {o : Oper} {t kt et r : Nat} {x y z : Operand} {i : Int} {ks : List Int} (ho : o.op = .mapUpdate t x y z) (hd : o.dst = none) (hg : o.guard = none)
    (ht : tyD P t = some (.map kt et)) (hkt : tyD P kt = some (.int .i64)) (hx : ev ρ x = some (.map (some r))) (hy : ev ρ y = some (.int .i64 i)) (hz : ev ρ z = some (.bool true)) (hm : MapL w r ks)
    (hk : ∀ w', MapL w' r (addL ks i) → Kp (fun i => i = r) w w' → w'.heap.size = w.heap.size → Ops none P n ds all k Φ l ρ w') : Ops none P n ds all k Φ (o :: l) ρ w := by
  obtain ⟨w', hrun, h1, h2, h3⟩ := run_putL (x := i) ht hkt hm
  refine Ops.unit hg hd (fun a hr => ?_) (hk w' h1 h2 h3)
  simp [execOp, ho, hr.ev hx, hr.ev hy, hr.ev hz, hrun]
/-- len(m) -/
theorem Ops.lenM {o : Oper} {d t kt et r : Nat} {x : Operand} {ks : List Int} (ho : o.op = .call { callee := .builtin .len, args := #[x], argTypes := #[t] }) (hd : o.dst = some d) (hg : o.guard = none)
    (ht : tyD P t = some (.map kt et)) (hx : ev ρ x = some (.map (some r))) (hm : MapL w r ks) (hk : Ops md P n ds all k Φ l ((d, .int .i64 (ks.length : Int)) :: ρ) w) : Ops md P n ds all k Φ (o :: l) ρ w := by
  refine Ops.valS hd hg (fun a hr => ?_) hk
  obtain ⟨es, c, hb, h1⟩ := hm
  have hs : es.size = ks.length := by
    have := congrArg List.length h1
    simpa using this
  simp [execOp, ho, resolve, hr.ev hx, invoke, builtin, Builtin.len_, run_und (td_map (tyD_ok ht)), run_getObj_m hb, goInt, hs]
/-- x[:m:m] of a slice of length m. -/
theorem Ops.sl3 {o : Oper} {d t e sz m c : Nat} {x y z : Operand} {A : Option Addr} (ho : o.op = .slice t x none (some y) (some z)) (hd : o.dst = some d) (hg : o.guard = none)
    (ht : tyD P t = some (.slice e)) (hs : tyS P e = some sz) (hx : ev ρ x = some (.slice A m c)) (hy : ev ρ y = some (.int .i64 (m : Int))) (hz : ev ρ z = some (.int .i64 (m : Int))) (h1 : m ≤ c) (hk : Ops md P n ds all k Φ l ((d, .slice A m m) :: ρ) w) : Ops md P n ds all k Φ (o :: l) ρ w := by
  refine Ops.valS hd hg (fun a hr => ?_) hk
  have e0 : A.map (fun p : Addr => p.add 0) = A := by cases A <;> simp [Addr.add]
  simp [execOp, ho, hr.ev hx, hr.ev hy, hr.ev hz, Instr.sliceAt, Instr.slice, Instr.sliceBounds, Instr.sliceBound, asIntOf, run_und (td_slice (tyD_ok ht)), run_sizeOf hs, h1, e0]
/-- append(s, x) where s has no room. -/
theorem Ops.pushG {α : Type} {enc : α → Value} {z0 : α} {o1 o2 : Oper} {d1 d2 t e by' m : Nat} {x y : Operand} {u : α} {A : Option Addr} {z : Value} {xs : List α}
    (h1 : o1.op = .buildSlice t 1 #[(0, x)]) (hd1 : o1.dst = some d1) (hg1 : o1.guard = none) (h2 : o2.op = .call { callee := .builtin .append, args := #[y, .tmp d1], argTypes := #[t, t] }) (hd2 : o2.dst = some d2) (hg2 : o2.guard = none)
    (ht : tyD P t = some (.slice e)) (hs : tyS P e = some 1) (hb : tyB P e = some (by' + 1)) (hz : tyZ P e = some z) (hzs : z.cells.size = 1) (hx : ev ρ x = some (enc u)) (hy : ∀ p, ev ((d1, p) :: ρ) y = some (.slice A m m)) (hu : (enc u).oneCell' = true) (hnil : A = none → m = 0)
    (hS : Sl enc z0 w (.slice A m m) xs) (hbytes : (xs.length + 1) * (by' + 1) ≤ 140737488355328)
    (hk : ∀ lv' p w', OI e enc w w' lv' (xs ++ [u]) → Ops none P n ds all k Φ l ((d2, lv') :: (d1, p) :: ρ) w') : Ops none P n ds all k Φ (o1 :: o2 :: l) ρ w := by
  refine Ops.bs1 h1 hd1 hg1 ht hs hz hzs hx hu (fun w1 r hM => ?_)
  obtain ⟨f, hi, h2', h3, h4⟩ := tyE_ok hs hb hz
  have hS1 := hS.kp hM.kp (fun _ _ e => e)
  have hb1 : Below w.heap.size w w1 := Below.put (Below.refl _ _) hM.kp (fun _ e => e.elim)
  obtain ⟨hm', A', c', e1, hc⟩ := hS1
  cases e1
  have hone := own_one hM
  have hnews : ∀ j v, [enc u][j]? = some v → w1.cell? ((⟨r, 0, none⟩ : Addr).add j) = some v := hone.cells (g := r) rfl
  have hl5 : xs.length + 1 ≤ (xs.length + 1) * (by' + 1) := Nat.le_mul_of_pos_right _ (by omega)
  have key : ∀ (cap : Nat) (cs : Array Value), cap = grownCap w1 (xs.length + 1) xs.length e → cs.size = cap → cs.toList.take (xs.length + 1) = (xs ++ [u]).map enc → OI e enc w (w1.drew.alloc (.cells cs e)) (.slice (some ⟨w1.heap.size, 0, none⟩) (xs.length + 1) cap) (xs ++ [u]) := by
    intro cap cs hcap hcs ht'
    have hal := mk_alloc w1.drew (.cells cs e)
    have hd : Below w1.heap.size w1 w1.drew := Kp.below (kp_drew w1) (Nat.le_refl _) (fun _ _ e => e)
    refine ⟨Below.via hb1 (Below.put hd hal.kp (fun _ e => e.elim)), ⟨by simp, .inr ⟨w1.heap.size, cap, cs, by simp, Nat.zero_le _, hal.at_, ?_, ?_, by omega, by simpa using ht'⟩⟩, fun j hj => by simp [Value.ownBlock] at hj; have := hb1.size; omega⟩
    · rw [hcap]; have := grownCap_ge w1 (xs.length + 1) xs.length e; simpa using this
    · rw [hcap]; exact grownCap_le_maxLen w1 _ _ e (by simp only [maxLen]; omega)
  have hrun : ∃ v' w', (Builtin.append_ #[t, t] o2.type #[.slice A xs.length xs.length, .slice (some ⟨r, 0, none⟩) 1 1]).run P w1 = .ok v' w' ∧ OI e enc w w' v' (xs ++ [u]) := by
    cases A with
    | none =>
      have hx0 : xs = [] := List.eq_nil_of_length_eq_zero (hnil rfl)
      subst hx0
      have hr := run_append_nil (P := P) w1 t o2.type e f z (td_slice (tyD_ok ht)) hi h4 ⟨r, 0, none⟩ 1 1 [enc u] (by rw [h2']; rfl) hnews (by omega) (by omega) (by rw [h3]; simp only [List.length_nil, Nat.zero_add] at hbytes; omega)
      refine ⟨_, _, hr, ?_⟩
      have := key _ ([enc u].toArray ++ Builtin.zeroCells z.cells (grownCap w1 1 0 e - 1)) rfl (by have := grownCap_ge w1 1 0 e; simp [size_zeroCells, hzs]; omega) (by simp)
      simpa using this
    | some a =>
      have hold : ∀ j v, (xs.map enc)[j]? = some v → w1.cell? (a.add j) = some v := fun j v hj => by
        rw [List.getElem?_map, Option.map_eq_some_iff] at hj
        obtain ⟨q, hq, rfl⟩ := hj
        have hjl := (List.getElem?_eq_some_iff.1 hq).1
        obtain ⟨a', ea, hcc⟩ := hc (by omega)
        cases ea
        rw [hcc j hjl]
        simp [List.getD_eq_getElem?_getD, hq]
      have hr := run_append_grow (P := P) w1 t o2.type e f z (td_slice (tyD_ok ht)) hi h4 a xs.length xs.length (xs.map enc) (by rw [h2']; simp) hold ⟨r, 0, none⟩ 1 1 [enc u] (by rw [h2']; rfl) hnews (by omega) (by omega) (by rw [h3]; exact growslice_fits (by omega) hbytes)
      refine ⟨_, _, hr, ?_⟩
      refine key _ ((xs.map enc).toArray ++ [enc u].toArray ++ Builtin.zeroCells z.cells (grownCap w1 (xs.length + 1) xs.length e - (xs.length + 1))) rfl ?_ ?_
      · have := grownCap_ge w1 (xs.length + 1) xs.length e; simp [size_zeroCells, hzs]; omega
      · simp only [Array.toList_append, List.map_append, List.map_cons, List.map_nil]
        rw [List.take_append_of_le_length (by simp)]
        rw [List.take_of_length_le (by simp)]
  obtain ⟨v', w', hr', hO⟩ := hrun
  refine Ops.val hd2 hg2 (fun a hr => ?_) (hk v' _ w' hO)
  simp [execOp, h2, resolve, invoke, builtin, hr.ev (hy _), hr.ev (ev_top _ _ _), hr']
/-- p[1:h] of an array. -/
theorem EV.slA {o : Oper} {t e len h : Nat} {x y z : Operand} {a : Addr} (ho : o.op = .slice t x (some z) (some y) none) (ht : tyD P t = some (.array len e)) (hs : tyS P e = some 1) (hx : ev ρ x = some (.pointer (some a))) (hz : ev ρ z = some (.int .i64 1)) (hy : ev ρ y = some (.int .i64 (h : Int))) (h0 : 1 ≤ h) (h1 : h ≤ len) (h2 : 1 < len) :
    EV P n ρ w o (.slice (some (a.add 1)) (h - 1) (len - 1)) := by
  intro c hr
  have hne : ¬ len = 1 := by omega
  have hne2 : ¬ ((h : Int) < 1) := by omega
  simp [hne2, execOp, ho, hr.ev hx, hr.ev hy, hr.ev hz, Instr.sliceAt, Instr.sureAddr, Instr.sliceBounds, Instr.sliceBound, asIntOf, run_und (td_array (tyD_ok ht)), run_sizeOf hs, h0, h1, hne]
end
end Go.Proofs.YtcmjlmnfdncajaaGreatDoor.VW
