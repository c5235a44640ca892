/- A part of the walk: what this seat's statements share. -/
import Derived.Test.YtdiljpnfochndaaZV1
set_option linter.unusedVariables false
set_option linter.unusedSimpArgs false
/- Operations that only compute. -/
namespace Go.Proofs.Ytdiljpnfochndaa.VW
open Go
/-- What the walks ask of a type. -/
inductive TD where
  | bool | int (k : IntKind) | string | slice (e : Nat) | map (k e : Nat) | struct (fs : List (Nat × Nat)) | array (len e : Nat) | pointer (e : Nat) | func | iface | other
def tdOf (P : Program) (t : Nat) : Option TD :=
  match P.underlying t with
  | some .bool => some .bool
  | some (.int k) => some (.int k)
  | some .string => some .string
  | some (.slice e) => some (.slice e)
  | some (.map k e) => some (.map k e)
  | some (.struct fs) => some (.struct (fs.toList.map fun f => (f.offset, ((P.info? f.type).map (·.size)).getD 0)))
  | some (.array n e) => some (.array n e)
  | some (.pointer e) => some (.pointer e)
  | some (.func ..) => some .func
  | some (.interface _) => some .iface
  | some _ => some .other
  | none => none
/-- A table of the program's types that the walks meet: its number; what it is; cells, bytes, zero. -/
structure Ty where
  t : Nat
  d : TD
  size : Nat
  bytes : Nat
  zero : Value
def tget : List Ty → Nat → Option Ty
  | [], _ => none
  | p :: r, t => bif Nat.beq p.t t then some p else tget r t
class Tab (P : Program) where
  T : List Ty
  ok : T.map (fun e => (tdOf P e.t, (P.info? e.t).map fun i => (i.size, i.bytes, i.zero))) = T.map (fun e => (some e.d, some (e.size, e.bytes, some e.zero)))
def ty (P : Program) [h : Tab P] (t : Nat) : Option Ty := tget h.T t
theorem tget_ok {P : Program} {t : Nat} {e : Ty} : ∀ {T : List Ty}, T.map (fun e => (tdOf P e.t, (P.info? e.t).map fun i => (i.size, i.bytes, i.zero))) = T.map (fun e => (some e.d, some (e.size, e.bytes, some e.zero))) → tget T t = some e →
    tdOf P t = some e.d ∧ ∃ i, P.info? t = some i ∧ i.size = e.size ∧ i.bytes = e.bytes ∧ i.zero = some e.zero
  | [], _, hg => by simp [tget] at hg
  | p :: r, h, hg => by
    simp only [List.map_cons, List.cons.injEq, Prod.mk.injEq] at h
    simp only [tget] at hg
    cases hb : Nat.beq p.t t with
    | true =>
      rw [hb] at hg
      have := Nat.eq_of_beq_eq_true hb
      subst this
      simp at hg
      subst hg
      refine ⟨h.1.1, ?_⟩
      have h2 := h.1.2
      cases hi : P.info? p.t with
      | none => rw [hi] at h2; simp at h2
      | some i => rw [hi] at h2; simp at h2; exact ⟨i, rfl, h2.1, h2.2.1, h2.2.2⟩
    | false => rw [hb] at hg; exact tget_ok h.2 hg
theorem ty_ok {P : Program} [h : Tab P] {t : Nat} {e : Ty} (hg : ty P t = some e) : tdOf P t = some e.d ∧ ∃ i, P.info? t = some i ∧ i.size = e.size ∧ i.bytes = e.bytes ∧ i.zero = some e.zero := tget_ok h.ok hg
section
variable {P : Program} {t : Nat}
theorem td_slice {e : Nat} (h : tdOf P t = some (.slice e)) : P.underlying t = some (.slice e) := by
  unfold tdOf at h; split at h <;> simp_all
theorem td_int {k : IntKind} (h : tdOf P t = some (.int k)) : P.underlying t = some (.int k) := by
  unfold tdOf at h; split at h <;> simp_all
theorem td_bool (h : tdOf P t = some .bool) : P.underlying t = some .bool := by
  unfold tdOf at h; split at h <;> simp_all
theorem td_string (h : tdOf P t = some .string) : P.underlying t = some .string := by
  unfold tdOf at h; split at h <;> simp_all
theorem td_map {a e : Nat} (h : tdOf P t = some (.map a e)) : P.underlying t = some (.map a e) := by
  unfold tdOf at h; split at h <;> simp_all
theorem td_array {a e : Nat} (h : tdOf P t = some (.array a e)) : P.underlying t = some (.array a e) := by
  unfold tdOf at h; split at h <;> simp_all
theorem td_pointer {e : Nat} (h : tdOf P t = some (.pointer e)) : P.underlying t = some (.pointer e) := by
  unfold tdOf at h; split at h <;> simp_all
theorem td_iface (h : tdOf P t = some .iface) : ∃ m, P.underlying t = some (.interface m) := by
  unfold tdOf at h; split at h <;> simp_all
theorem td_struct {fs : List (Nat × Nat)} (h : tdOf P t = some (.struct fs)) : ∃ gs, P.underlying t = some (.struct gs) ∧ gs.toList.map (fun f => (f.offset, ((P.info? f.type).map (·.size)).getD 0)) = fs := by
  unfold tdOf at h; split at h <;> simp_all
end
def isAggB : TD → Bool
  | .struct _ => true
  | .array _ _ => true
  | _ => false
/-- What an operation that only computes gives. -/
def cmpV : BinOp → Int → Int → Option Value
  | .eql, a, b => some (.bool (a == b))
  | .neq, a, b => some (.bool (a != b))
  | .lss, a, b => some (.bool (decide (a < b)))
  | .leq, a, b => some (.bool (decide (a ≤ b)))
  | .gtr, a, b => some (.bool (decide (a > b)))
  | .geq, a, b => some (.bool (decide (a ≥ b)))
  | _, _, _ => none
def kEq : IntKind → IntKind → Bool
  | .i8, .i8 | .i16, .i16 | .i32, .i32 | .i64, .i64 | .u8, .u8 | .u16, .u16 | .u32, .u32 | .u64, .u64 => true
  | _, _ => false
theorem kEq_eq {a b : IntKind} (h : kEq a b = true) : a = b := by cases a <;> cases b <;> simp [kEq] at h <;> rfl
def binV (op : BinOp) : Value → Value → Option Value
  | .int k a, .int k' b => bif kEq k k' then cmpV op a b else none
  | _, _ => none
def evs (ρ : E) : List Operand → Option (List Value)
  | [] => some []
  | x :: r => match ev ρ x, evs ρ r with
    | some v, some vs => some (v :: vs)
    | _, _ => none
def nth : List Value → Nat → Option Value
  | [], _ => none
  | v :: _, 0 => some v
  | _ :: r, i + 1 => nth r i
theorem nth_eq : ∀ (l : List Value) (i : Nat), nth l i = l[i]?
  | [], _ => by simp [nth]
  | _ :: _, 0 => by simp [nth]
  | _ :: r, i + 1 => by simp [nth, nth_eq r i]
def pureV (ρ : E) : Op → Option Value
  | .move x => ev ρ x
  | .assign x => ev ρ x
  | .binOp op _ x y _ => match ev ρ x, ev ρ y with
    | some a, some b => binV op a b
    | _, _ => none
  | .unOp .not _ x => match ev ρ x with
    | some (.bool b) => some (.bool (!b))
    | _ => none
  | .pick c x y => match ev ρ c with
    | some (.bool true) => ev ρ x
    | some (.bool false) => ev ρ y
    | _ => none
  | .extract x i => match ev ρ x with
    | some (.tuple vs) => nth vs.toList i
    | _ => none
  | .makeFunc f a b => match evs ρ a.toList, evs ρ b.toList with
    | some xs, some ys => some (.func f xs.toArray ys.toArray)
    | _, _ => none
  | .nilCheck x => match ev ρ x with
    | some (.pointer (some p)) => some (.pointer (some p))
    | some (.func (.func f) a b) => some (.func (.func f) a b)
    | _ => none
  | _ => none
theorem evs_map {n : Nat} {a : Act} {ρ : E} (h : Rep n a ρ) : ∀ {l : List Operand} {vs : List Value}, evs ρ l = some vs → l.map a.eval = vs
  | [], vs, e => by simp [evs] at e; simp [e]
  | x :: r, vs, e => by
    simp only [evs] at e
    split at e
    · rename_i v us h1 h2
      simp at e
      subst e
      simp [h.ev h1, evs_map h h2]
    · simp at e
section
variable {P : Program} {n : Nat} {ds : List Deferred} {Φ : Post} {k : List It} {ρ : E} {w : World} {all : Array Oper} {l : List Oper} {md : Option (List Oper)}
theorem run_cmp {op : BinOp} {a b : Int} {v : Value} (h : cmpV op a b = some v) : (Op.intCmp op a b).run P w = .ok v w := by
  cases op <;> simp [cmpV] at h <;> subst h <;> rfl
theorem pureV_ok {o : Oper} {v : Value} (h : pureV ρ o.op = some v) {a : Act} (hr : Rep n a ρ) : (execOp a.eval o).run P w = .ok (.value v) w := by
  obtain ⟨dst, op, ty, pos, aft, g⟩ := o
  cases op <;> simp only [pureV] at h <;> try (simp at h; done)
  case move x => simp [execOp, hr.ev h]
  case assign x => simp [execOp, hr.ev h]
  case binOp op t x y ty' =>
    split at h
    · rename_i u u' h1 h2
      simp only [execOp, hr.ev h1, hr.ev h2]
      cases u <;> simp only [binV] at h <;> try (simp at h; done)
      rename_i k1 n1
      cases u' <;> simp only at h <;> try (simp at h; done)
      rename_i k2 n2
      cases hk : kEq k1 k2 with
      | false => rw [hk] at h; simp at h
      | true =>
        rw [hk] at h
        have := kEq_eq hk
        subst this
        simp only [cond_true] at h
        cases op <;> simp [cmpV] at h <;> subst h <;> simp [eqGuard, binOp, Op.intCmp, go_sem]
    · simp at h
  case unOp op t x =>
    cases op <;> simp only at h <;> try (simp at h; done)
    split at h
    · rename_i b h1
      simp at h
      subst h
      simp [execOp, hr.ev h1]; rfl
    · simp at h
  case pick c x y =>
    split at h
    · rename_i h1
      simp [execOp, hr.ev h1, hr.ev h, asBool]
    · rename_i h1
      simp [execOp, hr.ev h1, hr.ev h, asBool]
    · simp at h
  case nilCheck x =>
    split at h
    · rename_i p h1
      simp at h
      subst h
      simp [execOp, hr.ev h1]
    · rename_i p c d h1
      simp at h
      subst h
      simp [execOp, hr.ev h1]
    · simp at h
  case makeFunc f x y =>
    split at h
    · rename_i xs ys h1 h2
      simp at h
      subst h
      have e1 := evs_map hr h1
      have e2 := evs_map hr h2
      simp only [execOp]
      have q1 : x.map a.eval = xs.toArray := by apply Array.toList_inj.1; simpa using e1
      have q2 : y.map a.eval = ys.toArray := by apply Array.toList_inj.1; simpa using e2
      rw [q1, q2]; rfl
    · simp at h
  case extract x i =>
    split at h
    · rename_i vs h1
      simp only [execOp, hr.ev h1, Instr.extract]
      rw [nth_eq, Array.getElem?_toList] at h
      rw [h]; rfl
    · simp at h
/-- An operation that only computes. -/
theorem Ops.pu {o : Oper} {v : Value} {d : Nat} (hd : o.dst = some d) (hg : o.guard = none) (h : pureV ρ o.op = some v) (hk : Ops md P n ds all k Φ l ((d, v) :: ρ) w) : Ops md P n ds all k Φ (o :: l) ρ w :=
  Ops.valS hd hg (fun _ hr => pureV_ok h hr) hk
/-- Sums that stay in range. -/
def inR (x : Int) : Prop := -9223372036854775808 ≤ x ∧ x ≤ 9223372036854775807
theorem wrap_in {x : Int} (h : inR x) : IntKind.i64.wrap x = x := by
  unfold inR at h
  simp only [IntKind.wrap, IntKind.bits, IntKind.signed]
  simp
  omega
def arV (ρ : E) : Op → Option Int
  | .binOp op _ x y _ => match ev ρ x, ev ρ y with
    | some (.int .i64 a), some (.int .i64 b) => match op with
      | .add => some (a + b)
      | .sub => some (a - b)
      | .mul => some (a * b)
      | _ => none
    | _, _ => none
  | .unOp .neg _ x => match ev ρ x with
    | some (.int .i64 a) => some (0 - a)
    | _ => none
  | _ => none
theorem arV_ok {o : Oper} {x : Int} (h : arV ρ o.op = some x) (hb : inR x) {a : Act} (hr : Rep n a ρ) : (execOp a.eval o).run P w = .ok (.value (.int .i64 x)) w := by
  obtain ⟨dst, op, ty, pos, aft, g⟩ := o
  have hw := wrap_in hb
  cases op <;> simp only [arV] at h <;> try (simp at h; done)
  case binOp op t x' y ty' =>
    split at h
    · rename_i u u' h1 h2
      simp only [execOp, hr.ev h1, hr.ev h2]
      cases op <;> simp only at h <;> (try (simp at h; done)) <;> simp at h <;> subst h
      all_goals simp [eqGuard, binOp, Op.intArith, go_sem, hw]
    · simp at h
  case unOp op t x' =>
    cases op <;> simp only at h <;> try (simp at h; done)
    split at h
    · rename_i u h1
      simp only [execOp, hr.ev h1]
      simp only [Option.some.injEq] at h; subst h
      show Result.ok (Next.value (.int .i64 (IntKind.i64.wrap _))) w = _; rw [hw]
    · simp at h
theorem Ops.ar {o : Oper} {x : Int} {d : Nat} (hd : o.dst = some d) (hg : o.guard = none) (h : arV ρ o.op = some x) (hb : -9223372036854775808 ≤ x ∧ x ≤ 9223372036854775807) (hk : Ops md P n ds all k Φ l ((d, .int .i64 x) :: ρ) w) : Ops md P n ds all k Φ (o :: l) ρ w :=
  Ops.valS hd hg (fun _ hr => arV_ok h hb hr) hk
theorem yielded_of {a : Act} (hr : Rep n a ρ) {j d : Nat} {b : Bool} (hj : (all[j]?).bind (·.dst) = some d) (hv : look ρ d = some (.bool b)) : yielded all a.tmps j = some b := by
  have h := hr.slot d _ hv
  have h2 : a.tmps[d]? = some (.bool b) := by
    rw [Array.getD_eq_getD_getElem?] at h
    cases hx : a.tmps[d]? with
    | none => rw [hx] at h; simp [undef] at h
    | some v => rw [hx] at h; simp at h; rw [h]
  simp [yielded, hj, h2]
/-- A guarded operation that does not run. -/
theorem Ops.no {o : Oper} {j : Nat} {want b : Bool} {d d' : Nat} (hdst : o.dst = some d') (hg : o.guard = some (j, want)) (hj : (all[j]?).bind (·.dst) = some d) (hv : look ρ d = some (.bool b)) (hne : b = !want)
    (h : Ops md P n ds all k Φ l ((d', undef) :: ρ) w) : Ops md P n ds all k Φ (o :: l) ρ w := by
  intro hi a ha hd
  simp only [List.all_cons, Bool.and_eq_true] at hi
  have hy := yielded_of ha hj hv
  have h' := h hi.2 (a.put o.dst undef) (by have := ha.put hi.1 undef; rw [hdst] at this ⊢; exact this) (by cases hx : o.dst <;> exact hd)
  cases md with
  | none =>
    show wpList _ _ _ _ _ _
    unfold wpList
    rw [if_neg (by simp [Region.wanted, hg, hy, hne])]
    exact h'
  | some tl =>
    refine wpStill_step fun K hK => ?_
    rw [if_neg (by simp [Region.wanted, hg, hy, hne])]
    exact hK _ h'
/-- A guarded operation that runs: the same without its guard. -/
theorem Ops.yes {o : Oper} {j : Nat} {want : Bool} {d : Nat} (hg : o.guard = some (j, want)) (hj : (all[j]?).bind (·.dst) = some d) (hv : look ρ d = some (.bool want))
    (h : Ops md P n ds all k Φ ({ o with guard := none } :: l) ρ w) : Ops md P n ds all k Φ (o :: l) ρ w := by
  intro hi a ha hd
  have h' := h (by simpa using hi) a ha hd
  have hy := yielded_of ha hj hv
  cases md with
  | none =>
    show wpList _ _ _ _ _ _
    have h2 : wpList _ _ _ _ _ _ := h'
    unfold wpList at h2 ⊢
    rw [if_pos (by simp [Region.wanted])] at h2
    rw [if_pos (by simp [Region.wanted, hg, hy])]
    exact h2
  | some tl =>
    show wpStill _ _ _ _ _ _
    have h2 : wpStill _ _ _ _ _ _ := h'
    unfold wpStill at h2 ⊢
    rw [if_pos (by simp [Region.wanted])] at h2
    rw [if_pos (by simp [Region.wanted, hg, hy])]
    exact h2
/-- A guard that is not known. -/
theorem Ops.gd {o : Oper} {j : Nat} {want b : Bool} {d d' : Nat} (hdst : o.dst = some d') (hg : o.guard = some (j, want)) (hj : (all[j]?).bind (·.dst) = some d) (hv : look ρ d = some (.bool b))
    (h1 : b = want → Ops md P n ds all k Φ ({ o with guard := none } :: l) ((d, .bool want) :: ρ) w) (h2 : b = !want → Ops md P n ds all k Φ l ((d', undef) :: (d, .bool (!want)) :: ρ) w) : Ops md P n ds all k Φ (o :: l) ρ w := by
  have hsub : ∀ ρ' : E, (∀ t v, look ρ' t = some v → look ρ t = some v) → ∀ a, Rep n a ρ → Rep n a ρ' := fun ρ' hl a hr => ⟨hr.size, fun t v h => hr.slot t v (hl t v h)⟩
  have hl : ∀ c, b = c → ∀ t v, look ((d, .bool c) :: ρ) t = some v → look ρ t = some v := by
    intro c hc t v h
    simp only [look] at h
    cases hb : Nat.beq d t with
    | true => rw [hb] at h; simp at h; rw [← Nat.eq_of_beq_eq_true hb, hv, hc, h]
    | false => rw [hb] at h; exact h
  have hld : ∀ c : Bool, look ((d, .bool c) :: ρ) d = some (.bool c) := fun c => by simp [look]
  by_cases hb : b = want
  · exact fun hi a hr hd => Ops.yes hg hj (hld want) (h1 hb) hi a (hsub _ (hl _ hb) a hr) hd
  · have hb' : b = !want := by cases b <;> cases want <;> simp_all
    exact fun hi a hr hd => Ops.no hdst hg hj (hld (!want)) rfl (h2 hb') hi a (hsub _ (hl _ hb') a hr) hd
theorem Ops.gdT {o : Oper} {j : Nat} {b : Bool} {d d' : Nat} (hdst : o.dst = some d') (hg : o.guard = some (j, true)) (hj : (all[j]?).bind (·.dst) = some d) (hv : look ρ d = some (.bool b))
    (h1 : b = true → Ops md P n ds all k Φ ({ o with guard := none } :: l) ((d, .bool true) :: ρ) w) (h2 : b = false → Ops md P n ds all k Φ l ((d', undef) :: (d, .bool false) :: ρ) w) : Ops md P n ds all k Φ (o :: l) ρ w := Ops.gd hdst hg hj hv h1 h2
theorem Ops.gdF {o : Oper} {j : Nat} {b : Bool} {d d' : Nat} (hdst : o.dst = some d') (hg : o.guard = some (j, false)) (hj : (all[j]?).bind (·.dst) = some d) (hv : look ρ d = some (.bool b))
    (h1 : b = true → Ops md P n ds all k Φ l ((d', undef) :: (d, .bool true) :: ρ) w) (h2 : b = false → Ops md P n ds all k Φ ({ o with guard := none } :: l) ((d, .bool false) :: ρ) w) : Ops md P n ds all k Φ (o :: l) ρ w := Ops.gd hdst hg hj hv h2 h1
/-- A guard that did not run itself. -/
theorem Ops.nu {o : Oper} {j : Nat} {want : Bool} {d d' : Nat} (hdst : o.dst = some d') (hg : o.guard = some (j, want)) (hj : (all[j]?).bind (·.dst) = some d) (hv : look ρ d = some undef)
    (h : Ops md P n ds all k Φ l ((d', undef) :: ρ) w) : Ops md P n ds all k Φ (o :: l) ρ w := by
  intro hi a ha hd
  simp only [List.all_cons, Bool.and_eq_true] at hi
  have hy : yielded all a.tmps j = none := by
    have h := ha.slot d _ hv
    rw [Array.getD_eq_getD_getElem?] at h
    simp only [yielded, hj, Option.bind_some]
    cases hx : a.tmps[d]? with
    | none => rfl
    | some v => rw [hx] at h; simp at h; rw [h]; rfl
  have h' := h hi.2 (a.put o.dst undef) (by have := ha.put hi.1 undef; rw [hdst] at this ⊢; exact this) (by cases hx : o.dst <;> exact hd)
  cases md with
  | none =>
    show wpList _ _ _ _ _ _
    unfold wpList
    rw [if_neg (by simp [Region.wanted, hg, hy])]
    exact h'
  | some tl =>
    refine wpStill_step fun K hK => ?_
    rw [if_neg (by simp [Region.wanted, hg, hy])]
    exact hK _ h'
end
end Go.Proofs.Ytdiljpnfochndaa.VW
