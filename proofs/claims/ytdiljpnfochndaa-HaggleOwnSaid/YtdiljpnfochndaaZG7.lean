/- A part of the walk: what this seat's statements share. -/
import Derived.Test.YtdiljpnfochndaaZG3
import Derived.Laws.CopyRow
import Derived.RangeFuncCalls
import Derived.OrdersIn
import Derived.TacticsIn
import Derived.Test.YtdiljpnfochndaaZG2
import Derived.Test.YtdiljpnfochndaaZG6
import Derived.Test.YtdiljpnfochndaaZG5
set_option linter.unusedVariables false
set_option linter.unusedSimpArgs false
set_option linter.unusedSectionVars false
/- Words that wrap and shift; copy into a slice of the call's own; x[k:], x[:k]. -/
namespace Go.Proofs.Ytdiljpnfochndaa.VW
open Go Go.RowKit
/-- What an operation on two whole numbers gives, whatever the kind. -/
def bw : BinOp → IntKind → Int → Int → Option Int
  | .add, k, a, b => some (k.wrap (a + b))
  | .sub, k, a, b => some (k.wrap (a - b))
  | .mul, k, a, b => some (k.wrap (a * b))
  | .and, k, a, b => some (k.wrap ((BitVec.ofInt k.bits a &&& BitVec.ofInt k.bits b).toNat))
  | .or, k, a, b => some (k.wrap ((BitVec.ofInt k.bits a ||| BitVec.ofInt k.bits b).toNat))
  | _, _, _, _ => none
def bsh : BinOp → IntKind → Int → Int → Option Int
  | .shl, k, a, b => if b < 0 then none else some (k.wrap (a * 2 ^ (min b.toNat k.bits)))
  | .shr, k, a, b => if b < 0 then none else some (a.fdiv (2 ^ (min b.toNat k.bits)))
  | _, _, _, _ => none
section
variable {P : Program} [hT : Tab P] {n : Nat} {ds : List Deferred} {Φ : Post} {k : List It} {ρ : E} {w : World} {all : Array Oper} {l : List Oper} {md : Option (List Oper)} {s : Nat} {F : World → Prop} {π : List (Nat × Nat)} {L : List Bool}
omit hT in
theorem EV.bw {o : Oper} {op : BinOp} {t t' : Nat} {x y : Operand} {kd : IntKind} {a b v : Int} (ho : o.op = .binOp op t x y t') (hx : ev ρ x = some (.int kd a)) (hy : ev ρ y = some (.int kd b)) (hv : VW.bw op kd a b = some v) : EV P n ρ w o (.int kd v) := by
  intro c hr
  simp only [execOp, ho, hr.ev hx, hr.ev hy]
  cases op <;> simp [VW.bw] at hv <;> subst hv <;> simp [eqGuard, binOp, Op.intArith, Op.intBits, go_sem] <;> rfl
omit hT in
theorem EV.bsh {o : Oper} {op : BinOp} {t t' : Nat} {x y : Operand} {kd kd' : IntKind} {a b v : Int} (ho : o.op = .binOp op t x y t') (hx : ev ρ x = some (.int kd a)) (hy : ev ρ y = some (.int kd' b)) (hv : VW.bsh op kd a b = some v) : EV P n ρ w o (.int kd v) := by
  intro c hr
  simp only [execOp, ho, hr.ev hx, hr.ev hy]
  cases op <;> simp [VW.bsh] at hv <;> (obtain ⟨h1, h2⟩ := hv; subst h2; simp [eqGuard, binOp, Op.shift, go_sem, Int.not_lt.2 h1])
/-- x[:h] -/
theorem EV.slH {o : Oper} {t e sz m c : Nat} {x y : Operand} {A : Option Addr} {h : Int} (ho : o.op = .slice t x none (some y) none) (ht : tyD P t = some (.slice e)) (hs : tyS P e = some sz) (hx : ev ρ x = some (.slice A m c)) (hy : ev ρ y = some (.int .i64 h)) (h0 : 0 ≤ h) (h1 : h ≤ c) : EV P n ρ w o (.slice A h.toNat c) := by
  intro a hr
  have e0 : A.map (fun p : Addr => p.add 0) = A := by cases A <;> simp [Addr.add]
  simp [execOp, ho, hr.ev hx, hr.ev hy, Instr.sliceAt, Instr.slice, Instr.sliceBounds, Instr.sliceBound, asIntOf, run_und (td_slice (tyD_ok ht)), run_sizeOf hs, h0, h1, e0]
/-- x[k:] of a slice of the call's own -/
theorem EV.slO {o : Oper} {t e g m c q : Nat} {x y : Operand} (ho : o.op = .slice t x (some y) none none) (ht : tyD P t = some (.slice e)) (hs : tyS P e = some 1) (hx : ev ρ x = some (.slice (some ⟨g, 0, none⟩) m c)) (hy : ev ρ y = some (.int .i64 (q : Int))) (h1 : q ≤ m) (h2 : q < c) (h3 : m ≤ c) : EV P n ρ w o (.slice (some ⟨g, q, none⟩) (m - q) (c - q)) := by
  intro a hr
  have hne : ¬ c = q := by omega
  have e0 : (⟨g, 0, none⟩ : Addr).add (q * 1) = ⟨g, q, none⟩ := by rw [add_lit]; simp
  have e1 : (⟨g, 0, none⟩ : Addr).add q = ⟨g, q, none⟩ := by rw [add_lit]; simp
  simp [execOp, ho, hr.ev hx, hr.ev hy, Instr.sliceAt, Instr.slice, Instr.sliceBounds, Instr.sliceBound, asIntOf, run_und (td_slice (tyD_ok ht)), run_sizeOf hs, h1, hne, e0, e1]
/-- copy into a slice of the call's own. -/
theorem Ops.cpO {α : Type} {enc : α → Value} {z : α} {w0 : World} {o : Oper} {d t t' e g off m c dl dc : Nat} {x y : Operand} {yv : Value} {os ys : List α} (ho : o.op = .call { callee := .builtin .copy, args := #[x, y], argTypes := #[t, t'] }) (hd : o.dst = some d) (hg : o.guard = none)
    (ht : tyD P t = some (.slice e)) (hs : tyS P e = some 1) (hx : ev ρ x = some (.slice (some ⟨g, off, none⟩) dl dc)) (hy : ev ρ y = some yv) (hO : OI e enc w0 w (.slice (some ⟨g, 0, none⟩) m c) os) (hS : Sl enc z w yv ys) (hp : 0 < ys.length) (hoff : off + dl = os.length) (h1 : ∀ u, (enc u).oneCell' = true)
    (hk : ∀ w', OI e enc w0 w' (.slice (some ⟨g, 0, none⟩) m c) (os.take off ++ ys.take dl ++ os.drop (off + Min.min ys.length dl)) → Kp (fun i => i = g) w w' → w'.heap.size = w.heap.size → Ops none P n ds all k Φ l ((d, .int .i64 (Min.min ys.length dl : Nat)) :: ρ) w') : Ops none P n ds all k Φ (o :: l) ρ w := by
  obtain ⟨hyl, Ay, cy, rfl, hcell⟩ := hS
  obtain ⟨ad, rfl, hcell2⟩ := hcell hp
  have hown := hO.own
  rcases hown.2 with ⟨h2, _⟩ | ⟨g', cap, cur, h2, _, hgb, hnc, hx2, hcs, ht'⟩
  · cases h2
  · cases h2
    obtain ⟨f, hi, h3⟩ := tyS_ok hs
    have hmin : ((ys.take dl).map enc).length = Nat.min ys.length dl := by simp [Nat.min_comm]
    have hsz : (P.info? e).map (·.size) = some 1 := by rw [hi]; simp [h3]
    have hcz : cur.size = c := by simpa using hcs
    have hoc : os.length ≤ c := hnc
    have hfit : off + ((ys.take dl).map enc).length ≤ cur.size := by rw [hmin, hcz]; have : Nat.min ys.length dl ≤ dl := Nat.min_le_right _ _; omega
    have hrun := run_copy_row (P := P) w t t' o.type e g off dl dc ad ys.length cy cur e ((ys.take dl).map enc) (td_slice (tyD_ok ht)) hsz hgb hmin (fun j v hj => by
      rw [List.getElem?_map, List.getElem?_take] at hj
      split at hj
      · rw [Option.map_eq_some_iff] at hj
        obtain ⟨u, hu, rfl⟩ := hj
        have hjl : j < ys.length := (List.getElem?_eq_some_iff.1 hu).1
        rw [hcell2 j hjl]
        simp [List.getD_eq_getElem?_getD, hu]
      · simp at hj) hfit (fun v hv => by obtain ⟨u, _, rfl⟩ := List.mem_map.1 hv; exact h1 u)
    have hlen : ((ys.take dl).map enc).length = Min.min ys.length dl := hmin
    have hkp : Kp (fun i => i = g) w (w.setRow g (cur.toList.take off ++ (ys.take dl).map enc ++ cur.toList.drop (off + ((ys.take dl).map enc).length)).toArray) :=
      ⟨rfl, rfl, rfl, by simp [World.setRow], fun i hi hn => setRow_other w g i _ (by omega)⟩
    have hle : (os.take off ++ ys.take dl ++ os.drop (off + Min.min ys.length dl)).length = os.length := by simp; omega
    refine Ops.val hd hg (fun a hr => ?_) (hk _ ⟨Below.put hO.bel hkp (fun i hi => by subst hi; exact hO.ge _ rfl), ?_, hO.ge⟩ hkp (by simp [World.setRow]))
    · simp [execOp, ho, resolve, invoke, builtin, hr.ev hx, hr.ev hy, hrun, Result.andThen, goInt, Nat.min_comm]
    · refine ⟨by simp, .inr ⟨g, c, _, by rw [hle], Nat.zero_le _, setRow_heap w g cur _ e _ hgb, by rw [hle]; exact hnc, hx2, ?_, ?_⟩⟩
      · rw [List.size_toArray]; simp [hcz] at *; omega
      · rw [hle]
        have hto : cur.toList.take (os.length * 1) = os.map enc := by simpa using ht'
        rw [Nat.mul_one] at hto ⊢
        have hol : os.length ≤ cur.toList.length := by simp [hcz]; omega
        rw [hlen, List.map_append, List.map_append]
        simp only [List.map_take, List.map_drop]
        rw [← hto]
        simp only [List.take_append, List.length_append, List.length_take, List.length_map]
        have e1 : Min.min off cur.toList.length = off := by omega
        rw [e1]
        congr 1
        · congr 1
          · rw [List.take_take, List.take_take]; congr 1; omega
          · rw [List.take_of_length_le (by simp; omega)]
        · rw [List.drop_take]
          congr 1
          omega
/-- A map's literal, entry by entry. -/
theorem Ops.ins {o : Oper} {t kt et r : Nat} {x y z : Operand} {i : Int} {f : Int → Bool} (ho : o.op = .insert t x y z) (hd : o.dst = none) (hg : o.guard = none)
    (ht : tyD P t = some (.map kt et)) (hkt : tyD P kt = some (.int .i64)) (hx : ev ρ x = some (.map (some r))) (hy : ev ρ y = some (.int .i64 i)) (hz : ev ρ z = some (.bool true)) (hm : MapB w r f)
    (hk : ∀ w', MapB w' r (fun k => f k || k == i) → Kp (fun i => i = r) w w' → w'.heap.size = w.heap.size → Ops none P n ds all k Φ l ρ w') : Ops none P n ds all k Φ (o :: l) ρ w := by
  obtain ⟨w', hrun, h1, h2, h3⟩ := run_put (x := i) ht hkt hm
  refine Ops.unit hg hd (fun a hr => ?_) (hk w' h1 h2 h3)
  simp [execOp, ho, hr.ev hx, hr.ev hy, hr.ev hz, hrun]
/-- A load out of a block that was told of earlier. -/
theorem z_D {o : Oper} {d t b q t' : Nat} {x : Operand} {cs : Array Value} {v : Value} {w0 : World} (ho : o.op = .load t x := by exact rfl) (hd : o.dst = some d := by exact rfl) (hg : o.guard = none := by exact rfl)
    (ht : tyAgg P t = some false := by exact rfl) (hx : ev ρ x = some (.pointer (some ⟨b, q, none⟩)) := by exact rfl) (hb : Blk w0 b cs t' := by assumption) (hbel : Below w0.heap.size w0 w := by first | assumption | exact Below.refl _ _) (hi : nth cs.toList q = some v := by exact rfl) (kk : Ops md P n ds all k Φ l ((d, v) :: ρ) w) : Ops md P n ds all k Φ (o :: l) ρ w :=
  Ops.ldB ho hd hg ht hx (hb.kp (Kp.of_below (S := fun _ => False) hbel) (fun e => e)) hi kk
theorem MapB.below {w w' : World} {b : Nat} {f : Int → Bool} (h : MapB w b f) (k : Below w.heap.size w w') : MapB w' b f := h.kp (Kp.of_below (S := fun _ => False) k) (fun e => e)
end
end Go.Proofs.Ytdiljpnfochndaa.VW
/- Within a fence: rounds of a range over a function, and functions that call yield. -/
namespace Go.Proofs.Ytdiljpnfochndaa.VW
open Go Go.RowKit
def Fw : Option Nat → Fence
  | none => Fence.wide
  | some l => Fence.wide.inRound l
theorem Fw_fn (r : Option Nat) (f : FuncId) : (Fw r).fn f := by cases r <;> exact trivial
theorem Fw_dep (r : Option Nat) : (Fw r).depth = none := by cases r <;> rfl
theorem Fw_calls (r : Option Nat) {m : Nat} {P : Program} {f : FuncId} {args : Array Value} {w : World} {R : Ending → World → Prop} (h : Calls P f args w R) : CallsIn (Fw r) m P f args w R := by
  cases r with
  | none => exact callsIn_wide.2 h
  | some l => exact (callsIn_wide.2 h).inRound l
theorem Fw_rows (r : Option Nat) {m : Nat} {P : Program} {row : String} {args : Array Value} {w : World} {R : Value → World → Prop} (h : Rows P row args w R) : RowsIn (Fw r) m P row args w R := by
  cases r with
  | none => exact fun c cs _ => let ⟨v, w', r, s⟩ := h c cs; ⟨v, w', r, stepsIn_wide.2 s⟩
  | some l => exact fun c cs _ => let ⟨v, w', r, s⟩ := h c cs; ⟨v, w', r, stepsIn_wide.2 s⟩
def noDefer (ops : List Oper) : Bool := ops.all fun o => match o.op with | .defer _ => false | _ => true
theorem noDefer_at {ops : List Oper} (h : noDefer ops = true) {o : Oper} (ho : o ∈ ops) (c : Call) : o.op ≠ .defer c := by
  intro e
  have := List.all_eq_true.1 h o ho
  rw [e] at this
  cases this
theorem opIn {r : Option Nat} {m : Nat} {P : Program} {o : Oper} {a : Act} {w : World} {K K' : Act → World → Prop} {Q Q' : Exit → Act → World → Prop} (hd : ∀ c, o.op ≠ .defer c) (hK : ∀ a w, K a w → K' a w) (hp : ∀ c a w, ¬ Q (.panic c) a w) (ho : ¬ LetsOut Q)
    (h : o.wp P a w K Q) : o.wpIn (Fw r) m P a w K' Q' := by
  refine ⟨fun f _ => Fw_fn r f, ?_⟩
  rw [Oper.semAt_eq _ _ _ hd]
  unfold Oper.wp at h
  generalize (execOp a.eval o).run P w = res at *
  have hdep : (Fw r).depth.isSome = true → 1 ≤ m := fun h => by rw [Fw_dep] at h; cases h
  cases res with
  | ok nx w' =>
    cases nx <;> simp only [Oper.upon] at h <;> simp only [Oper.uponIn]
    case value v => exact hK _ _ h
    case skip => exact hK _ _ h
    case defer d => exact hK _ _ h
    case enter f args =>
      refine ⟨hdep, Fw_calls r (h.mono fun e w'' he => ?_)⟩
      cases e with
      | returned v => exact hK _ _ he
      | panicked ch => exact (hp _ _ _ he).elim
      | outgrown => exact (ho he).elim
    case row rw args => exact ⟨hdep, Fw_rows r (h.mono fun v w'' hv => hK _ _ hv)⟩
  | halt x w' =>
    cases x <;> simp only [Oper.upon] at h
    exact (hp _ _ _ h).elim
section
variable {P : Program} {n : Nat} {ds : List Deferred} {ρ : E} {w : World} {r : Option Nat}
/-- A stretch of a region in the text's order. -/
theorem listIn {all : Array Oper} {Q Q' : Exit → Act → World → Prop} {rest : List Oper} (hp : ∀ c a w, ¬ Q (.panic c) a w) (ho : ¬ LetsOut Q) (hr : ∀ a w, Q .normal a w → wpListIn (Fw r) 0 P all Q' rest a w) :
    ∀ (pre : List Oper) (a : Act) (w : World), noDefer pre = true → wpList P all Q pre a w → wpListIn (Fw r) 0 P all Q' (pre ++ rest) a w
  | [], a, w, _, h => hr a w h
  | o :: l, a, w, hd, h => by
    have hd' : noDefer l = true := by unfold noDefer at *; simp only [List.all_cons, Bool.and_eq_true] at hd; exact hd.2
    have ih := fun a w => listIn hp ho hr l a w hd'
    show wpListIn (Fw r) 0 P all Q' (o :: (l ++ rest)) a w
    unfold wpList at h
    unfold wpListIn
    split
    · rename_i hw
      rw [if_pos hw] at h
      exact h.elim (fun h => opIn (noDefer_at hd (by simp)) ih hp ho h) (fun h => (ho h.2).elim)
    · rename_i hw
      rw [if_neg hw] at h
      exact ⟨fun f _ => Fw_fn r f, ih _ _ h⟩
theorem anyIn {all : Array Oper} {Q Q' : Exit → Act → World → Prop} (hp : ∀ c a w, ¬ Q (.panic c) a w) (ho : ¬ LetsOut Q) (hq : ∀ a w, Q .normal a w → Q' .normal a w) (hd : noDefer all.toList = true) :
    ∀ (m : Nat) (L : Array Bool) (a : Act) (w : World), wpAny P .any all Q m L a w → wpAnyIn (Fw r) 0 P .any all Q' m L a w
  | 0, L, a, w, h => ⟨h.1, hq _ _ h.2⟩
  | m + 1, L, a, w, h => by
    refine ⟨fun e => hq _ _ (h.1 e), fun i hi => ?_⟩
    have := h.2 i hi
    unfold wpOp at this
    unfold wpOpIn
    split
    · rename_i e; rw [e] at this; exact anyIn hp ho hq hd m _ _ _ this
    · rename_i o e
      rw [e] at this
      simp only at this
      split
      · rename_i hw
        rw [if_pos hw] at this
        rcases this with h | ⟨_, h⟩
        · refine opIn (noDefer_at hd ?_) (fun a w => anyIn hp ho hq hd m _ a w) hp ho h
          exact Array.mem_toList_iff.2 (Array.mem_of_getElem? e)
        · exact (ho h).elim
      · rename_i hw
        rw [if_neg hw] at this
        exact ⟨fun f _ => Fw_fn r f, anyIn hp ho hq hd m _ _ _ this⟩
def LI (n : Nat) (ds : List Deferred) (Q : Post) (e : Exit) (a : Act) (w : World) : Prop := ∃ ρ', Rep n a ρ' ∧ a.defers = ds ∧ Q e ρ' w
/-- A code's walk within a fence. -/
def Wi (r : Option Nat) (P : Program) (n : Nat) (ds : List Deferred) (c : Code) (Q : Post) (ρ : E) (w : World) : Prop :=
  ∀ a, Rep n a ρ → a.defers = ds → c.wpIn (Fw r) 0 P (LI n ds Q) a w
theorem Wi.mono {c : Code} {Q Q' : Post} (h : Wi r P n ds c Q ρ w) (hj : ∀ e ρ w, Q e ρ w → Q' e ρ w) : Wi r P n ds c Q' ρ w :=
  fun a hr hd => wpIn_mono (h a hr hd) fun e a w ⟨ρ', h1, h2, h3⟩ => ⟨ρ', h1, h2, hj _ _ _ h3⟩
theorem Wi.seq {x y : Code} {Q : Post} (h : Wi r P n ds x (fun e ρ w => match e with | .normal => Wi r P n ds y Q ρ w | e => Q e ρ w) ρ w) : Wi r P n ds (.seq x y) Q ρ w := by
  intro a hr hd
  refine wpIn_seq (wpIn_mono (h a hr hd) ?_)
  rintro e a w ⟨ρ', h1, h2, h3⟩
  cases e with
  | normal => exact h3 a h1 h2
  | _ => exact ⟨ρ', h1, h2, h3⟩
theorem Wi.skip {Q : Post} (h : Q .normal ρ w) : Wi r P n ds .skip Q ρ w := fun a hr hd => wpIn_skip ⟨ρ, hr, hd, h⟩
theorem Wi.exit {id : Nat} {Q : Post} (h : Q (.exit id) ρ w) : Wi r P n ds (.exit id) Q ρ w := fun a hr hd => wpIn_exit ⟨ρ, hr, hd, h⟩
theorem Wi.cond {c : Operand} {x y : Code} {t : Bool} {Q : Post} (hc : ev ρ c = some (.bool t)) (h1 : t = true → Wi r P n ds x Q ρ w) (h2 : t = false → Wi r P n ds y Q ρ w) : Wi r P n ds (.cond c x y) Q ρ w :=
  fun a hr hd => wpIn_cond_split (hr.ev hc) (fun e => h1 e a hr hd) (fun e => h2 e a hr hd)
theorem Wi.block {id : Nat} {c : Code} {Q : Post} (h : Wi r P n ds c (fun e ρ w => match e with | .exit i => if i = id then Q .normal ρ w else Q (.exit i) ρ w | e => Q e ρ w) ρ w) : Wi r P n ds (.block id c) Q ρ w := by
  intro a hr hd
  refine wpIn_block (wpIn_mono (h a hr hd) ?_)
  rintro e a w ⟨ρ', h1, h2, h3⟩
  cases e with
  | exit i =>
    have h3' : if i = id then Q .normal ρ' w else Q (.exit i) ρ' w := h3
    show if i = id then _ else _
    split
    · rename_i e; rw [if_pos e] at h3'; exact ⟨ρ', h1, h2, h3'⟩
    · rename_i e; rw [if_neg e] at h3'; exact ⟨ρ', h1, h2, h3'⟩
  | _ => exact ⟨ρ', h1, h2, h3⟩
theorem Wi.loop {c : Code} {Q : Post} (I : Nat → E → World → Prop) {m : Nat} (h0 : I m ρ w)
    (round : ∀ m ρ w, I m ρ w → Wi r P n ds c (fun e ρ1 w1 => match e with | .normal => ∃ m2 ρ2, (I m2 ρ2 w1 ∧ m2 < m) ∧ Sub ρ2 ρ1 | e => Q e ρ1 w1) ρ w) :
    Wi r P n ds (.loop c) Q ρ w := by
  intro a hr hd
  have key : ∀ m a w, (∃ ρ, Rep n a ρ ∧ a.defers = ds ∧ I m ρ w) → (Code.loop c).wpIn (Fw r) 0 P (LI n ds Q) a w := by
    intro m a w ha
    refine wpIn_loop (P := P) (fun a w => ∃ m ρ, Rep n a ρ ∧ a.defers = ds ∧ I m ρ w) (fun a w => Classical.epsilon fun m => (∃ ρ, Rep n a ρ ∧ a.defers = ds ∧ I m ρ w) ∧ ∀ m', (∃ ρ, Rep n a ρ ∧ a.defers = ds ∧ I m' ρ w) → m ≤ m') ⟨m, ha⟩ ?_
    rintro a w ⟨m1, hm1⟩
    have hmin : ∀ a w, (∃ m, ∃ ρ, Rep n a ρ ∧ a.defers = ds ∧ I m ρ w) → (fun m => (∃ ρ, Rep n a ρ ∧ a.defers = ds ∧ I m ρ w) ∧ ∀ m', (∃ ρ, Rep n a ρ ∧ a.defers = ds ∧ I m' ρ w) → m ≤ m') (Classical.epsilon fun m => (∃ ρ, Rep n a ρ ∧ a.defers = ds ∧ I m ρ w) ∧ ∀ m', (∃ ρ, Rep n a ρ ∧ a.defers = ds ∧ I m' ρ w) → m ≤ m') := by
      intro a w hex
      refine Classical.epsilon_spec (p := fun m => (∃ ρ, Rep n a ρ ∧ a.defers = ds ∧ I m ρ w) ∧ ∀ m', (∃ ρ, Rep n a ρ ∧ a.defers = ds ∧ I m' ρ w) → m ≤ m') ?_
      obtain ⟨m, hm⟩ := hex
      induction m using Nat.strongRecOn with
      | _ m ih =>
        by_cases hlt : ∃ m' < m, ∃ ρ, Rep n a ρ ∧ a.defers = ds ∧ I m' ρ w
        · obtain ⟨m', h1, h2⟩ := hlt
          exact ih m' h1 h2
        · refine ⟨m, hm, fun m' h' => ?_⟩
          by_cases h'' : m ≤ m'
          · exact h''
          · exact absurd ⟨m', by omega, h'⟩ hlt
    obtain ⟨⟨ρ1, hr1, hd1, hI1⟩, hle⟩ := hmin a w ⟨m1, hm1⟩
    refine wpIn_mono (round _ ρ1 w hI1 a hr1 hd1) fun e a2 w2 hl => ?_
    obtain ⟨ρ2, hr2, hd2, hl⟩ := hl
    cases e with
    | normal =>
      obtain ⟨m3, ρ3, ⟨hI3, hlt⟩, hs3⟩ : ∃ m2 ρ2', (I m2 ρ2' w2 ∧ m2 < _) ∧ Sub ρ2' ρ2 := hl
      have hex : ∃ ρ, Rep n a2 ρ ∧ a2.defers = ds ∧ I m3 ρ w2 := ⟨ρ3, hr2.sub hs3, hd2, hI3⟩
      exact ⟨⟨m3, hex⟩, Nat.lt_of_le_of_lt ((hmin a2 w2 ⟨m3, hex⟩).2 m3 hex) hlt⟩
    | _ => exact ⟨ρ2, hr2, hd2, hl⟩
  exact key m a w ⟨ρ, hr, hd, h0⟩
theorem Wi.sub {c : Code} {Q : Post} {ρ' : E} (hs : Sub ρ' ρ) (h : Wi r P n ds c Q ρ' w) : Wi r P n ds c Q ρ w := fun a hr hd => h a (hr.sub hs) hd
/-- Operations of a region within a fence. -/
def OpsI (r : Option Nat) (P : Program) (n : Nat) (ds : List Deferred) (all : Array Oper) (Q : Post) (l : List Oper) (ρ : E) (w : World) : Prop :=
  ∀ a, Rep n a ρ → a.defers = ds → wpListIn (Fw r) 0 P all (LI n ds Q) l a w
theorem Wi.region {id : Nat} {l : List Oper} {Q : Post} (h : OpsI r P n ds l.toArray Q l ρ w) : Wi r P n ds (.region id l.toArray false) Q ρ w :=
  fun a hr hd => wpIn_region_lit (h a hr hd)
theorem OpsI.nil {all : Array Oper} {Q : Post} (h : Q .normal ρ w) : OpsI r P n ds all Q [] ρ w := fun a hr hd => wpListIn_nil ⟨ρ, hr, hd, h⟩
/-- A stretch without yield. -/
theorem OpsI.pre {all : Array Oper} {Q : Post} {rest : List Oper} (pre : List Oper) (hi : (pre.all fun o => dOk n o.dst) = true) (hd : noDefer pre = true)
    (h : Ops none P n ds all [.lp (OpsI r P n ds all Q rest)] (fun _ _ _ => False) pre ρ w) : OpsI r P n ds all Q (pre ++ rest) ρ w := by
  intro a hr hds
  exact listIn (fun c a w h => by obtain ⟨_, _, h⟩ := h; exact h.2) (fun h => by obtain ⟨_, _, _, _, h⟩ := h; exact h.2) (fun a w h => by obtain ⟨ρ', h1, h2, h3⟩ := h; exact h3 a h1 h2) pre a w hd (h hi a hr hds)
theorem OpsI.split {all : Array Oper} {Q : Post} {l pre rest : List Oper} (m : Nat) (h1 : l.take m = pre) (h2 : l.drop m = rest) (hi : (pre.all fun o => dOk n o.dst) = true) (hd : noDefer pre = true)
    (h : Ops none P n ds all [.lp (OpsI r P n ds all Q rest)] (fun _ _ _ => False) pre ρ w) : OpsI r P n ds all Q l ρ w := by
  have := OpsI.pre (r := r) (Q := Q) (rest := rest) pre hi hd h
  rw [← h1, ← h2, List.take_append_drop] at this
  exact this
theorem OpsI.sub {all : Array Oper} {Q : Post} {l : List Oper} {ρ' : E} (hs : Sub ρ' ρ) (h : OpsI r P n ds all Q l ρ' w) : OpsI r P n ds all Q l ρ w := fun a hr hd => h a (hr.sub hs) hd
theorem Wi.regionN {id : Nat} {l : List Oper} {Q : Post} (hi : (l.all fun o => dOk n o.dst) = true) (hd : noDefer l = true) (h : Ops none P n ds l.toArray [.lp (Q .normal)] (fun _ _ _ => False) l ρ w) : Wi r P n ds (.region id l.toArray false) Q ρ w := by
  refine Wi.region ?_
  have := OpsI.pre (r := r) (rest := []) (Q := Q) (all := l.toArray) l hi hd (ρ := ρ) (w := w) (P := P) (ds := ds) (fun hh a hr hds => wpList_mono (fun e a w h => by
    obtain ⟨ρ', h1, h2⟩ := h
    cases e with
    | normal => exact ⟨ρ', h1, LiftD.mk h2.1 (OpsI.nil h2.2)⟩
    | ret => obtain ⟨_, _, h3⟩ := h2; exact h3.elim
    | _ => exact h2.2.elim) _ _ _ (h hh a hr hds))
  rwa [List.append_nil] at this
/-- A guarded call of yield. -/
theorem OpsI.yield {all : Array Oper} {Q : Post} {rest : List Oper} {o : Oper} {d j g : Nat} {x y : Operand} {l : Nat} {v : Value} {ts : Array TypeId}
    (ho : o.op = .call { callee := .value x, args := #[y], argTypes := ts }) (hdst : o.dst = some d) (hlt : Nat.blt d n = true) (hg : o.guard = some (j, true)) (hj : (all[j]?).bind (·.dst) = some g) (hv : look ρ g = some (.bool true))
    (hx : ev ρ x = some (.func (.yield l) #[] #[])) (hy : ev ρ y = some v)
    (hyld : YieldAt (Fw r) 0 P l #[v] w (fun e w' => e = .returned (.bool true) ∧ OpsI r P n ds all Q rest ((d, .bool true) :: ρ) w')) : OpsI r P n ds all Q (o :: rest) ρ w := by
  intro a hr hd
  unfold wpListIn
  have hyy := yielded_of hr hj hv
  rw [if_pos (by simp [Region.wanted, hg, hyy])]
  refine ⟨fun f _ => Fw_fn r f, ?_⟩
  rw [Oper.semAt_eq _ _ _ (by rw [ho]; simp)]
  obtain ⟨fn, tmps, assign, body, hrun, hround⟩ := hyld
  have he : (execOp a.eval o).run P w = .ok (.round l fn tmps assign body) w := by
    have q : #[y].map a.eval = #[v] := by simp only [List.map_toArray, List.map_cons, List.map_nil, hr.ev hy]
    rw [← hrun]
    simp only [execOp, ho, resolve, q]
    simp [hr.ev hx, Deferred.ofValue, invoke]
  rw [he, Oper.uponIn_round]
  refine ⟨fun h => (by rw [Fw_dep] at h; cases h), RoundIn.mono hround fun e w' he => ?_⟩
  obtain ⟨rfl, h⟩ := he
  have hput : Rep n (a.put o.dst (.bool true)) ((d, .bool true) :: ρ) := by
    have := hr.put (d := o.dst) (by rw [hdst]; exact hlt) (.bool true)
    rw [hdst] at this ⊢
    exact this
  exact h _ hput (by rw [hdst]; exact hd)
theorem ordA_any {Φ : Post} {k : List It} {ops : Array Oper} (s : Nat) (π : List (Nat × Nat)) (hi : (ops.toList.all fun o => dOk n o.dst) = true) (hs : Region.noSelect ops = true) (hlen : π.length = ops.size) (hc : chkA ops s π (List.replicate π.length false) = true) (hΦ : ∀ c ρ w, ¬ Φ (.panic c) ρ w)
    (h : OrdA P n ds ops k Φ s (fun w' => Below w.heap.size w w') π (List.replicate π.length false) ρ) (a : Act) (hr : Rep n a ρ) (hd : a.defers = ds) : wpAny P .any ops (lift n ds (Qof P n ds Φ k)) ops.size (Array.replicate ops.size false) a w.drew := by
  have := wpAny_of_A _ _ _ (h hc hs hi (by rw [List.toArray_replicate]; exact Cl.start _) hΦ a hr hd) w.drew (Kp.below (kp_drew w) (Nat.le_refl _) (fun _ _ e => e))
  rw [← hlen]
  rw [List.toArray_replicate] at this
  exact this
theorem Wi.ordA {id : Nat} {ops : Array Oper} {Q : Post} (s : Nat) (π : List (Nat × Nat)) (hm : P.follows .mixedOrders = true) (hi : (ops.toList.all fun o => dOk n o.dst) = true) (hdf : noDefer ops.toList = true) (hs : Region.noSelect ops = true) (hlen : π.length = ops.size) (hc : chkA ops s π (List.replicate π.length false) = true)
    (h : OrdA P n ds ops [.lp (Q .normal)] (fun _ _ _ => False) s (fun w' => Below w.heap.size w w') π (List.replicate π.length false) ρ) : Wi r P n ds (.region id ops true) Q ρ w := by
  intro a hr hd
  refine wpIn_region_any hm ?_
  exact anyIn (fun c a w h => by obtain ⟨_, _, h⟩ := h; exact h.2) (fun h => by obtain ⟨_, _, _, _, h⟩ := h; exact h.2) (fun a w h => by obtain ⟨ρ', h1, h2, h3⟩ := h; exact ⟨ρ', h1, h2, h3⟩) hdf _ _ _ _ (ordA_any s π hi hs hlen hc (fun _ _ _ h => h) h a hr hd)
/-- A function that may call yield, from its first instruction on. -/
theorem callsIn_Wi {f : FuncId} {fn : Func} {c : Code} {vs : List Value} {R : Value → World → Prop} (hf : P.funcs[f]? = some fn) (hb : fn.body = some c) (hs : Nat.ble vs.length fn.ntmps = true)
    (h : Wi none P fn.ntmps [] c (fun e ρ w => (e = .normal ∨ e = .ret) ∧ ∃ us, resT fn.results.toList ρ = some us ∧ R (resV us) w) (argE vs 0) w) : CallsIn (Fw none) 0 P f vs.toArray w (Ret R) := by
  have hs' : vs.length ≤ fn.ntmps := Nat.le_of_ble_eq_true hs
  refine callsIn_of_wp hf hb trivial ?_
  have hrep : Rep fn.ntmps { tmps := vs.toArray ++ Array.replicate (fn.ntmps - vs.toArray.size) undef, defers := [] } (argE vs 0) := by
    refine ⟨by simp; omega, fun t v hl => ?_⟩
    obtain ⟨_, h2⟩ := look_argE vs 0 t v hl
    have ht : t < vs.length := by
      rw [Nat.sub_zero] at h2
      exact (List.getElem?_eq_some_iff.1 h2).1
    rw [Nat.sub_zero] at h2
    simp [Array.getD_eq_getD_getElem?, Array.getElem?_append, ht, h2]
    rw [List.getElem?_eq_getElem ht] at h2
    simpa using h2
  refine wpIn_mono (h _ hrep rfl) ?_
  rintro e a w' ⟨ρ', hr', hd', he, us, hu, hR⟩
  rcases he with rfl | rfl
  · exact ⟨hd', _, run_results hr' hu, _, rfl, hR⟩
  · exact ⟨hd', _, run_results hr' hu, _, rfl, hR⟩
end
end Go.Proofs.Ytdiljpnfochndaa.VW
/- A range over a function, and one of its rounds. -/
namespace Go.Proofs.Ytdiljpnfochndaa.VW
open Go Go.RowKit
abbrev loopRec (fn : FuncId) (tmps : Array Value) (ps : Array Tmp) (assign body : Code) (D : Nat) : Loop := { state := .ready, pending := none, fn, tmps, params := ps, assign, body, defers := D }
section
variable {P : Program} {n : Nat} {ds : List Deferred} {ρ : E} {w : World}
theorem round_in {fn : FuncId} {tmps : Array Value} {p : Nat} {assign body : Code} {D L : Nat} {v : Value} {R : Ending → World → Prop} (hL : w.heap[L]? = some (.loop (loopRec fn tmps #[p] assign body D))) (hr : Rep n { tmps := tmps, defers := [] } ρ) (hp : Nat.blt p n = true)
    (h : Wi (some L) P n [] assign (fun e ρ1 w1 => e = .normal ∧ ∃ r, w1.heap[L]? = some (.loop r) ∧ r.state = .ready ∧ Wi (some L) P n [] body (fun e ρ2 w2 => e = .normal ∧ ∃ r2, w2.heap[L]? = some (.loop r2) ∧ R (.returned (.bool true)) (w2.putObj L (.loop { r2 with state := .ready, pending := none }))) ρ1 (w1.putObj L (.loop { r with state := .busy }))) ((p, v) :: ρ) w) :
    YieldAt (Fw none) 0 P L #[v] w R := by
  refine ⟨fn, _, assign, body, run_yield hL rfl, roundIn_of_wpIn (Fw_fn none fn) ?_⟩
  have hrep : Rep n { tmps := ((#[p] : Array Tmp).zip #[v]).foldl (fun tmps (t, a) => tmps.setIfInBounds t a) tmps, defers := [] } ((p, v) :: ρ) := by
    have := hr.put (d := some p) hp v
    simpa [Act.put, VW.put] using this
  refine wpIn_mono (h _ hrep rfl) ?_
  rintro e a w1 ⟨ρ1, hr1, hd1, rfl, r, hl1, hs1, hb⟩
  refine ⟨_, run_beginRound hl1 hs1, wpIn_mono (hb _ hr1 hd1) ?_⟩
  rintro e a2 w2 ⟨ρ2, hr2, hd2, rfl, r2, hl2, hR⟩
  exact ⟨_, _, run_endRound none hl2, hR⟩
/-- Code with a tail c2 still to come, before which marks may be laid. -/
def JW (P : Program) (n : Nat) (ds : List Deferred) (Φ : Post) (c2 c : Code) (ρ : E) (w : World) : Prop :=
  inB n c = true → ∀ a, Rep n a ρ → a.defers = ds → c.wp P (Exit.then (c2.wp P (lift n ds (Qof P n ds Φ []))) (lift n ds (Qof P n ds Φ []))) a w
theorem W.toJ {Y c2 : Code} {Φ : Post} (h : JW P n ds Φ c2 Y ρ w) : W P n ds [.code (.seq Y c2)] Φ ρ w := by
  intro hi a hr hd
  simp only [inB, Bool.and_eq_true] at hi
  exact wp_seq (h hi.1 a hr hd)
theorem JW.seq {x rest c2 : Code} {Φ : Post} (hi2 : inB n rest = true) (h : W P n ds [.code x, .lp (JW P n ds Φ c2 rest)] Φ ρ w) : JW P n ds Φ c2 (.seq x rest) ρ w := by
  intro hi a hr hd
  simp only [inB, Bool.and_eq_true] at hi
  refine wp_seq (wp_mono (h hi.1 a hr hd) fun e a w hl => ?_)
  cases e with
  | normal =>
    obtain ⟨ρ', hr', hl⟩ := hl
    obtain ⟨hd', hq⟩ := hl
    exact hq hi2 a hr' hd'
  | _ => exact hl
theorem JW.sub {c c2 : Code} {Φ : Post} {ρ' : E} (hs : Sub ρ' ρ) (h : JW P n ds Φ c2 c ρ' w) : JW P n ds Φ c2 c ρ w := fun hi a hr hd => h hi a (hr.sub hs) hd
theorem JW.range {id : Nat} {g : Operand} {p : Nat} {assign body c2 : Code} {gf : Nat} {lb : List Value} {Φ : Post} (hg : ev ρ g = some (.func (.func gf) #[] lb.toArray)) (hgf : callOk P gf = true) (hi2 : inB n c2 = true)
    (h : ∀ fn tmps, Rep n { tmps := tmps, defers := [] } ρ → ∀ D W1, D = w.heap.size → W1 = (w.alloc (.deferred (some []))).alloc (.loop (loopRec fn tmps #[p] assign body D)) →
      CallsIn (Fw none) 0 P gf (.func (.yield (D + 1)) #[] #[] :: lb).toArray W1 (Ret fun _ W2 => ∃ r, W2.heap[D + 1]? = some (.loop r) ∧ r.state = .ready ∧ r.pending = none ∧ W2.heap[D]? = some (.deferred (some [])) ∧
        ∀ W3, W3 = W2.putObj (D + 1) (.loop { r with state := .exhausted }) → W P n ({ target := .collected D, args := #[] } :: ds) [.code c2] (fun e ρ w => e = .ret ∧ w.heap[D]? = some (.deferred (some [])) ∧ Φ .ret ρ (w.putObj D (.deferred none))) ρ W3)) :
    JW P n ds Φ c2 (.block id (.rangeFunc g #[p] assign body)) ρ w := by
  intro hi a hr hd
  refine (wpIn_wide (n := 0)).1 (wpIn_block (wpIn_rangeFunc fun fn hfn => ?_))
  have hrep : Rep n { tmps := a.tmps, defers := [] } ρ := ⟨hr.size, hr.slot⟩
  have hcall := h fn a.tmps hrep _ _ rfl rfl
  have hev := hr.ev hg
  refine ⟨_, _, _, { target := .fn (.func gf) lb.toArray, args := #[.func (.yield (w.heap.size + 1)) #[] #[]] }, (w.alloc (.deferred (some []))).alloc (.loop (loopRec fn a.tmps #[p] assign body w.heap.size)), gf, _, _, run_enterLoop_outer _ _ _ _ _, ?_, fun f' _ => trivial, ?_, fun h => (by cases h), CallsIn.mono hcall ?_⟩
  · simp only [resolve, hev]
    simp [go_sem]
  · have hcf := run_callFunc (P := P) (w := (w.alloc (.deferred (some []))).alloc (.loop (loopRec fn a.tmps #[p] assign body w.heap.size))) (args := (.func (.yield (w.heap.size + 1)) #[] #[] :: lb).toArray) hgf
    have e : (Value.func (.yield (w.heap.size + 1)) #[] #[] :: lb).toArray = #[.func (.yield (w.heap.size + 1)) #[] #[]] ++ lb.toArray := by simp
    rw [e] at hcf ⊢
    simpa [invoke] using hcf
  · rintro e W2 ⟨v, rfl, r, hl, hs, hp, hD, hw⟩
    obtain ⟨st, pe, q1, q2, q3, q4, q5, q6⟩ := r
    simp only at hs hp
    subst hp
    refine ⟨none, _, run_endLoop (P := P) hl (by simp [hs]), ?_⟩
    show c2.wp P _ _ _
    have hw' := hw _ rfl hi2 { a with defers := { target := .collected w.heap.size, args := #[] } :: a.defers } ⟨hr.size, hr.slot⟩ (by rw [hd])
    refine wp_mono hw' ?_
    rintro e a3 w3 ⟨ρ3, hr3, hl3⟩
    cases e with
    | ret =>
      obtain ⟨w4, hm, _, hD3, hΦ⟩ := hl3
      exact ⟨ρ3, hr3, _, hm.trans (.cons hD3 (.nil _ _)), Qof.ret hΦ⟩
    | _ => exact absurd hl3.2.1 (by simp)
end
section
variable {P : Program} [hT : Tab P] {n : Nat} {ds : List Deferred} {ρ : E} {w : World} {all : Array Oper} {k : List It} {Φ : Post} {s : Nat} {F : World → Prop} {π : List (Nat × Nat)} {L : List Bool}
theorem x_D {i d t b q t' : Nat} {o : Oper} {x : Operand} {cs : Array Value} {v : Value} {w0 : World} {c : Bool} (h1 : all[i]? = some o := by exact rfl) (ho : o.op = .load t x := by exact rfl) (hd : o.dst = some d := by exact rfl) (hg : gdB all ρ o.guard = some c := by exact rfl) (hgc : c = true := by exact rfl)
    (ht : tyAgg P t = some false := by exact rfl) (hx : ev ρ x = some (.pointer (some ⟨b, q, none⟩)) := by exact rfl) (hb : Blk w0 b cs t' := by assumption) (hF : ∀ w, F w → Below w0.heap.size w0 w := by first | exact fun _ h => h | (intro _ h; exact Below.via (by assumption) h)) (hi : nth cs.toList q = some v := by exact rfl) (kk : OrdA P n ds all k Φ s F π (L.set i true) ((d, v) :: ρ)) : OrdA P n ds all k Φ s F ((i, 2) :: π) L ρ :=
  OrdA.read h1 hd hg hgc (fun w hFw => EV.ld ho ht hx ((hb.kp (Kp.of_below (S := fun _ => False) (hF w hFw)) (fun e => e)).cell (by rw [nth_eq, Array.getElem?_toList] at hi; exact hi))) kk
end
end Go.Proofs.Ytdiljpnfochndaa.VW
/- A store into a slice of the call's own, behind another effect of a drawn region. -/
namespace Go.Proofs.Ytdiljpnfochndaa.VW
open Go Go.RowKit
section
variable {P : Program} [hT : Tab P] {n : Nat} {ds : List Deferred} {Φ : Post} {k : List It} {ρ : E} {w : World} {all : Array Oper} {π : List (Nat × Nat)} {L : List Bool}
theorem Ord.wrO {α : Type} {enc : α → Value} {w0 : World} {i1 i2 d1 t t' e : Nat} {o1 o2 : Oper} {x y z : Operand} {v : Value} {u : α} {i : Int} {os : List α} {c1 : Bool}
    (h1 : all[i1]? = some o1) (ho : o1.op = .indexAddr t x y) (hd1 : o1.dst = some d1) (hg1 : gdB all ρ o1.guard = some c1) (hc1 : c1 = true) (h2 : all[i2]? = some o2) (ho2 : o2.op = .store t' (.tmp d1) z) (hd2 : o2.dst = none) (hg2 : o2.guard = none)
    (ht : tyD P t = some (.slice e)) (hs : tyS P e = some 1) (hs' : tyS P t' = some 1) (hx : ev ρ x = some v) (hy : ev ρ y = some (.int .i64 i)) (hz : ∀ p, ev ((d1, .pointer p) :: ρ) z = some (enc u)) (h1c : (enc u).oneCell' = true)
    (hO : OI e enc w0 w v os) (h0 : 0 ≤ i) (hi : i < os.length) (hΦ : ∀ c ρ w, ¬ Φ (.panic c) ρ w)
    (hk : ∀ w' p, OI e enc w0 w' v (os.set i.toNat u) → Kp (fun b => v.ownBlock = some b) w w' → w'.heap.size = w.heap.size → VW.Ord P n ds all k Φ 9999 (fun _ => True) π ((L.set i1 true).set i2 true) ((d1, p) :: ρ) w') : VW.Ord P n ds all k Φ 9999 (fun _ => True) ((i1, 1) :: (i2, 0) :: π) L ρ w := by
  obtain ⟨A, c, rfl⟩ := hO.sh
  have hA : ∃ a, A = some a := by
    cases A with
    | some a => exact ⟨a, rfl⟩
    | none =>
      rcases hO.own.2 with ⟨h2, h3⟩ | ⟨g, cap, cur, h2, _⟩
      · omega
      · cases h2
  obtain ⟨a, rfl⟩ := hA
  refine VW.Ord.pure h1 hd1 hg1 hc1 hΦ (fun w => EV.idx ho ht hs hx hy h0 hi) (VW.Ord.effT h2 ?_)
  exact Ops.stO (i := i.toNat) ho2 hd2 hg2 hs' rfl (ev_top _ _ _) (hz _) h1c hO (by omega) (fun w' hO' k1 hsz => Ops.nil (W.endl (hk w' _ hO' k1 hsz)))
end
end Go.Proofs.Ytdiljpnfochndaa.VW
/- int(uint(x) >> 1) -/
namespace Go.Proofs.Ytdiljpnfochndaa.VW
open Go Go.RowKit
section
variable {P : Program} [hT : Tab P] {n : Nat} {ds : List Deferred} {Φ : Post} {k : List It} {ρ : E} {w : World} {all : Array Oper} {l : List Oper} {md : Option (List Oper)}
theorem wrapU64 {s : Nat} (h : s < 9223372036854775808) : IntKind.u64.wrap (s : Int) = s := by
  have : (s : Int) % 18446744073709551616 = s := by omega
  simp [IntKind.wrap, IntKind.bits, IntKind.signed, this]
theorem wrapI64 {s : Nat} (h : s < 9223372036854775808) : IntKind.i64.wrap (s : Int) = s := by
  have : (s : Int) % 18446744073709551616 = s := by omega
  simp [IntKind.wrap, IntKind.bits, IntKind.signed, this]
  omega
theorem Ops.half {o1 o2 o3 : Oper} {d1 d2 d3 s1 t1 t2 t2' s3 t3 : Nat} {x y : Operand} {s : Nat} (h1 : o1.op = .convert s1 t1 x) (hd1 : o1.dst = some d1) (hg1 : o1.guard = none) (e1 : tyD P s1 = some (.int .i64)) (e2 : tyD P t1 = some (.int .u64)) (hx : ev ρ x = some (.int .i64 (s : Int)))
    (h2 : o2.op = .binOp .shr t2 (.tmp d1) y t2') (hd2 : o2.dst = some d2) (hg2 : gdB all ((d1, .int .u64 (IntKind.u64.wrap (s : Int))) :: ρ) o2.guard = some true) (hy : ev ((d1, .int .u64 (IntKind.u64.wrap (s : Int))) :: ρ) y = some (.int .u64 1))
    (h3 : o3.op = .convert s3 t3 (.tmp d2)) (hd3 : o3.dst = some d3) (hg3 : o3.guard = none) (e3 : tyD P s3 = some (.int .u64)) (e4 : tyD P t3 = some (.int .i64)) (hs : s < 9223372036854775808)
    (hk : Ops md P n ds all k Φ l ((d3, .int .i64 ((s / 2 : Nat) : Int)) :: (d2, .int .u64 ((s / 2 : Nat) : Int)) :: (d1, .int .u64 (s : Int)) :: ρ) w) : Ops md P n ds all k Φ (o1 :: o2 :: o3 :: l) ρ w := by
  have w1 := wrapU64 hs
  rw [w1] at hg2 hy
  refine Ops.cv h1 hd1 hg1 e1 e2 hx ?_
  rw [w1]
  have w2 : Int.fdiv (s : Int) 2 = ((s / 2 : Nat) : Int) := by rw [Int.fdiv_eq_ediv_of_nonneg _ (by omega)]; rfl
  refine Ops.evG hd2 hg2 rfl (EV.bsh (v := ((s / 2 : Nat) : Int)) h2 (ev_top _ _ _) hy ?_) ?_
  · simp [bsh, IntKind.bits, w2]
  refine Ops.cv h3 hd3 hg3 e3 e4 (ev_top _ _ _) ?_
  rw [wrapI64 (by omega)]
  exact hk
end
end Go.Proofs.Ytdiljpnfochndaa.VW
/- x == nil for slices; an empty literal; a field of an element written in a drawn region. -/
namespace Go.Proofs.Ytdiljpnfochndaa.VW
open Go Go.RowKit
section
variable {P : Program} [hT : Tab P] {n : Nat} {ds : List Deferred} {Φ : Post} {k : List It} {ρ : E} {w : World} {all : Array Oper} {l : List Oper} {md : Option (List Oper)} {s : Nat} {F : World → Prop} {π : List (Nat × Nat)} {L : List Bool}
theorem EV.nilE {o : Oper} {t t' e m c : Nat} {x y : Operand} {A : Option Addr} (ho : o.op = .binOp .eql t x y t') (ht : tyD P t = some (.slice e)) (hx : ev ρ x = some (.slice A m c)) (hy : ev ρ y = some (.slice none 0 0)) : EV P n ρ w o (.bool A.isNone) := by
  intro a hr
  have hu := td_slice (tyD_ok ht)
  simp only [execOp, ho, hr.ev hx, hr.ev hy]
  have : (Op.equal t (.slice A m c) (.slice none 0 0)).run P w = .ok A.isNone w := by
    unfold Op.equal
    rw [show Op.maxDepth = 9999 + 1 from rfl]
    unfold Op.equalIn
    cases A <;> simp [run_und hu]
  simp [eqGuard, binOp, this]
/-- An empty literal. -/
theorem Ops.bs0 {o : Oper} {d t e sz : Nat} (ho : o.op = .buildSlice t 0 #[]) (hd : o.dst = some d) (hg : o.guard = none) (ht : tyD P t = some (.slice e)) (hs : tyS P e = some sz)
    (hk : ∀ w' r, Mk w w' r (.cells #[] e) → Ops none P n ds all k Φ l ((d, .slice (some ⟨r, 0, none⟩) 0 0) :: ρ) w') : Ops none P n ds all k Φ (o :: l) ρ w := by
  refine Ops.val hd hg (fun a hr => ?_) (hk _ _ (mk_alloc w _))
  have h0 : (Array.range 0 : Array Nat) = #[] := rfl
  simp [execOp, ho, Instr.buildSlice, run_und (td_slice (tyD_ok ht)), run_sizeOf hs, Instr.fill, newRow, newObj, Sem.run, h0]
theorem own_zero {w w' : World} {r e sz : Nat} (h : Mk w w' r (.cells #[] e)) : w'.ownsRow 0 e sz (.slice (some ⟨r, 0, none⟩) 0 0) 0 [] :=
  ⟨by simp, .inr ⟨r, 0, #[], rfl, Nat.zero_le _, h.at_, Nat.le_refl _, by simp [maxLen], by simp, by simp⟩⟩
/-- A struct of two fields of which the second one alone is given. -/
theorem EV.bldS {o : Oper} {t : Nat} {y : Operand} {v z0 z1 : Value} (ho : o.op = .build t #[(1, y)])
    (ht : tyD P t = some (.struct [(0, 1), (1, 1)])) (hz : tyZ P t = some (.agg #[z0, z1])) (hy : ev ρ y = some v) (h2 : v.oneCell' = true) : EV P n ρ w o (.agg #[z0, v]) := by
  intro a hr
  obtain ⟨gs, hu, hm⟩ := td_struct (tyD_ok ht)
  have hsz : ∃ f g, gs = #[f, g] ∧ f.offset = 0 ∧ g.offset = 1 ∧ ((P.info? f.type).map (·.size)).getD 0 = 1 ∧ ((P.info? g.type).map (·.size)).getD 0 = 1 := by
    obtain ⟨L⟩ := gs
    rcases L with _ | ⟨f, _ | ⟨g, _ | ⟨h, r⟩⟩⟩
    · simp at hm
    · simp at hm
    · simp at hm; exact ⟨f, g, rfl, hm.1.1, hm.2.1, hm.1.2, hm.2.2⟩
    · simp at hm
  obtain ⟨f, g, rfl, hf0, hg1, hfs, hgs⟩ := hsz
  have q1 : ∃ i, P.info? f.type = some i ∧ i.size = 1 := by
    cases hi : P.info? f.type with
    | none => rw [hi] at hfs; simp at hfs
    | some i => rw [hi] at hfs; exact ⟨i, rfl, by simpa using hfs⟩
  have q2 : ∃ i, P.info? g.type = some i ∧ i.size = 1 := by
    cases hi : P.info? g.type with
    | none => rw [hi] at hgs; simp at hgs
    | some i => rw [hi] at hgs; exact ⟨i, rfl, by simpa using hgs⟩
  obtain ⟨i1, e1, s1⟩ := q1
  obtain ⟨i2, e2, s2⟩ := q2
  have hcv : v.cells = #[v] := by cases v <;> simp_all [Value.oneCell', Value.cells]
  have hcz : (Value.agg #[z0, z1]).cells = #[z0, z1] := rfl
  simp only [execOp, ho]
  simp [Instr.build, hr.ev hy, run_zeroV hz, run_und hu, sizeOf, typeInfo, e1, e2, s1, s2, hf0, hg1, Instr.fill, hcv, hcz]
/-- A field of an element of a slice of the call's own, written at the end of a drawn region. -/
theorem Ord.wrF {i1 i2 i3 d1 d2 t s' t' f e sz off szf m : Nat} {o1 o2 o3 : Oper} {x y z : Operand} {v u : Value} {i : Int} {cs : List Value}
    (e1 : all[i1]? = some o1) (h1 : o1.op = .indexAddr t x y) (hd1 : o1.dst = some d1) (hg1 : gdB all ρ o1.guard = some true) (e2 : all[i2]? = some o2) (h2 : o2.op = .fieldAddr s' (.tmp d1) f) (hd2 : o2.dst = some d2) (hg2 : ∀ p, gdB all ((d1, .pointer p) :: ρ) o2.guard = some true)
    (e3 : all[i3]? = some o3) (h3 : o3.op = .store t' (.tmp d2) z) (hd3 : o3.dst = none) (hg3 : o3.guard = none)
    (ht : tyD P t = some (.slice e)) (hs : tyS P e = some sz) (hf : fieldOff P s' f = some (off, szf + 1)) (hlt : Nat.blt off sz = true) (hs' : tyS P t' = some 1) (hx : ev ρ x = some v) (hy : ev ρ y = some (.int .i64 i)) (hz : ∀ p q, ev ((d2, q) :: (d1, p) :: ρ) z = some u) (hu1 : u.oneCell' = true)
    (hown : w.ownsRow 0 e sz v m cs) (h0 : 0 ≤ i) (hi : i < m) (hΦ : ∀ c ρ w, ¬ Φ (.panic c) ρ w)
    (hk : ∀ w' p q, w'.ownsRow 0 e sz v m (cs.set (i.toNat * sz + off) u) → Kp (fun b => v.ownBlock = some b) w w' → w'.heap.size = w.heap.size → VW.Ord P n ds all k Φ 9999 (fun _ => True) π (((L.set i1 true).set i2 true).set i3 true) ((d2, q) :: (d1, p) :: ρ) w') : VW.Ord P n ds all k Φ 9999 (fun _ => True) ((i1, 1) :: (i2, 1) :: (i3, 0) :: π) L ρ w := by
  have hlt' : off < sz := by simpa using hlt
  obtain ⟨g, cap, cur, rfl, hb, hcs⟩ := own_blk hown (by omega)
  refine VW.Ord.pure e1 hd1 hg1 rfl hΦ (fun w => EV.idx h1 ht hs hx hy h0 hi) (VW.Ord.pure e2 hd2 (hg2 _) rfl hΦ (fun w => EV.fld h2 hf (ev_top _ _ _)) (VW.Ord.effT e3 ?_))
  rw [add_lit, add_lit, Nat.zero_add]
  have hbd := mul_lt (i := i.toNat) (m := m) (sz := sz) (off := off) (by omega) hlt'
  refine Ops.st h3 hd3 hg3 hs' (ev_top _ _ _) (hz _ _) hu1 hb (by omega) (fun w' hu => Ops.nil (W.endl (hk w' _ _ (own_set hown hb hu) ?_ hu.size)))
  exact hu.kp.mono (fun i _ e => by simp [Value.ownBlock, e])
end
end Go.Proofs.Ytdiljpnfochndaa.VW
namespace Go.Proofs.Ytdiljpnfochndaa
open Go Go.RowKit Go.Proofs.Ytdiljpnfochndaa.VW
open Go.Proofs.Ytdiljpnfochndaa.HP (Nd kid wor leafB rd evB TF)
attribute [local irreducible] W Ops OrdA VW.Ord OrdX
theorem trees_c {w : World} {a b : Value} {x : List Nd} (ha : TreeM w a x) (hb : TreeM w b x) (hl : x.length ≤ 1000) :
    Calls Try.prog 51 #[a, b] w (Ret fun r w' => r = .bool true ∧ Below w.heap.size w w') := by
  obtain ⟨A, c, rfl⟩ := ha.sl
  obtain ⟨B, d, rfl⟩ := hb.sl
  refine calls_W (vs := [_, _]) Try.func51 rfl (by kernel_rfl) rfl ?_
  (repeat (first | with_reducible refine W.seq ?_ | with_reducible refine Ops.nil ?_ | with_reducible refine W.region ?_ | refine z_p (kk := ?_) | refine z_l (kk := ?_)))
  refine W.condF rfl (by first | rfl | assumption | (simp only [bnf] <;> omega) | (simp only [*, bnf]; done) | fail) ?_
  (repeat (first | with_reducible refine W.seq ?_ | with_reducible refine Ops.nil ?_ | with_reducible refine W.region ?_ | refine z_p (kk := ?_) | with_reducible refine W.skip ?_ | with_reducible refine W.block ?_))
  refine W.loop (fun m ρ w1 => ∃ (i : Nat), m = x.length - i ∧ i ≤ x.length ∧ ρ = [(0, .slice A x.length c), (1, .slice B x.length d), (5, .int .i64 i)] ∧ Below w.heap.size w w1)
    ⟨_, _, ⟨0, rfl, Nat.zero_le _, rfl, Below.refl _ _⟩, (by repeat (first | exact trivial | refine And.intro rfl ?_))⟩ ?_
  rintro m ρ w1 ⟨i, rfl, hi, rfl, hb1⟩
  (repeat (first | with_reducible refine W.seq ?_ | with_reducible refine Ops.nil ?_ | with_reducible refine W.region ?_ | refine z_p (kk := ?_) | refine z_l (kk := ?_)))
  (first | refine W.condD rfl (fun hc => ?_) (fun hc => ?_) | refine W.condE rfl (fun hc => ?_) (fun hc => ?_) | refine W.condN rfl (fun hc => ?_) (fun hc => ?_) | refine W.cond rfl (fun hc => ?_) (fun hc => ?_))
  · have hil : i < x.length := by omega
    have ha1 := ha.below hb1
    have hb1' := hb.below hb1
    (repeat (first | with_reducible refine W.seq ?_ | with_reducible refine W.skip ?_ | with_reducible refine W.block ?_))
    refine W.ordA 99 [(0, 1), (1, 1), (2, 1), (3, 1), (4, 2), (5, 1), (6, 1), (7, 1), (8, 1), (9, 2), (10, 1), (11, 1), (12, 1), (13, 1), (14, 1), (15, 1), (16, 2), (17, 1), (18, 1), (19, 1), (20, 1), (21, 2), (22, 2), (23, 1), (24, 1)] rfl (by kernel_rfl) rfl (by kernel_rfl) (fun _ _ _ h => h) ?_
    (repeat (first | refine x_p (kk := ?_) | refine x_w (kk := fun _ _ => ?_)))
    (first | refine x_t (kk := ?_) | refine x_f (kk := ?_))
    (repeat (first | refine x_p (kk := ?_) | refine x_k (kk := fun _ _ _ _ _ => ?_)))
    rename_i h1 _ _ _ _ h2
    refine OrdA.call rfl rfl rfl rfl rfl rfl rfl (v := .bool true) (fun w' hw' => (ints_c (Sl.below h1 (Below.via (Below.refl _ _) hw')) (Sl.below h2 hw')).mono fun e w'' ⟨v, he, hv, hb⟩ => ⟨v, he, by rw [hv]; simp, Below.via hw' hb⟩) ?_
    (repeat (first | refine x_p (kk := ?_)))
    refine OrdA.nil (fun w2 hb2 => ?_)
    have hb02 := Below.via hb1 hb2
    skip
    refine W.condF rfl (by first | rfl | assumption | (simp only [bnf] <;> omega) | (simp only [*, bnf]; done) | fail) ?_
    (repeat (first | with_reducible refine Ops.nil ?_ | with_reducible refine W.region ?_ | refine z_p (kk := ?_) | refine z_a (kk := ?_) | with_reducible refine W.skip ?_ | with_reducible refine W.endb ?_))
    exact W.endl ⟨_, _, ⟨⟨i + 1, rfl, by omega, rfl, hb02⟩, by omega⟩, (by repeat (first | exact trivial | refine And.intro rfl ?_))⟩
  · (repeat (first | with_reducible refine W.seq ?_ | with_reducible refine Ops.nil ?_ | with_reducible refine W.region ?_ | refine z_p (kk := ?_) | refine W.exit rfl ?_))
    exact W.fret rfl ⟨rfl, hb1⟩
end Go.Proofs.Ytdiljpnfochndaa
namespace Go.Proofs.Ytdiljpnfochndaa
open Go Go.RowKit Go.Proofs.Ytdiljpnfochndaa.VW
open Go.Proofs.Ytdiljpnfochndaa.HP (Nd kid wor leafB)
attribute [local irreducible] W Ops OrdA VW.Ord OrdX
theorem sl_kp' {α : Type} {enc : α → Value} {z : α} {w w' : World} {v : Value} {xs : List α} {S : Nat → Prop} (h : Sl enc z w v xs) (k : Kp S w w') (hs : 0 < xs.length → ∀ i, v.ownBlock = some i → ¬ S i) : Sl enc z w' v xs := by
  by_cases hp : 0 < xs.length
  · exact h.kp k (hs hp)
  · obtain ⟨h1, A, c, e, _⟩ := h
    exact ⟨h1, A, c, e, fun h => absurd h hp⟩
/-! ### Trees of the call's own -/
def flat : List Value → List Nd → List Value
  | c :: cs, x :: xs => c :: .int .i64 x.2 :: flat cs xs
  | _, _ => []
theorem flat_snoc : ∀ (cs : List Value) (xs : List Nd) (c : Value) (x : Nd), cs.length = xs.length → flat (cs ++ [c]) (xs ++ [x]) = flat cs xs ++ [c, .int .i64 x.2]
  | [], [], _, _, _ => rfl
  | a :: cs, y :: xs, c, x, h => by
    simp only [List.cons_append, flat]
    rw [flat_snoc cs xs c x (by simpa using h)]
  | [], _ :: _, _, _, h => by simp at h
  | _ :: _, [], _, _, h => by simp at h
theorem flat_at : ∀ (cs : List Value) (xs : List Nd) (j : Nat), cs.length = xs.length → j < xs.length → (flat cs xs).getD (j * 2) undef = cs.getD j undef ∧ (flat cs xs).getD (j * 2 + 1) undef = .int .i64 (xs.getD j ([], 0)).2
  | [], [], _, _, h => by simp at h
  | a :: cs, y :: xs, 0, h, _ => by simp [flat]
  | a :: cs, y :: xs, j + 1, h, hj => by
    have := flat_at cs xs j (by simpa using h) (by simpa using hj)
    rw [show (j + 1) * 2 = j * 2 + 1 + 1 by omega]
    simp only [flat, List.getD_cons_succ]
    exact this
  | [], _ :: _, _, h, _ => by simp at h
  | _ :: _, [], _, h, _ => by simp at h
structure TO (w0 w : World) (ov : Value) (tr : List Nd) (cvs : List Value) : Prop where
  bel : Below w0.heap.size w0 w
  ge : ∀ k, ov.ownBlock = some k → w0.heap.size ≤ k
  len : cvs.length = tr.length
  row : w.ownsRow 0 47 2 ov tr.length (flat cvs tr)
  kids : ∀ j, j < tr.length → SlI w (cvs.getD j undef) (tr.getD j ([], 0)).1 ∧ (0 < (tr.getD j ([], 0)).1.length → ∀ i, (cvs.getD j undef).ownBlock = some i → ov.ownBlock ≠ some i)
theorem TO.nil {w0 w : World} (h : Below w0.heap.size w0 w) : TO w0 w (.slice none 0 0) [] [] := ⟨h, fun k hk => by simp [Value.ownBlock] at hk, rfl, World.ownsRow_nil w 0 47 2, fun j hj => by simp at hj⟩
theorem TO.below {w0 w w' : World} {ov : Value} {tr : List Nd} {cvs : List Value} (h : TO w0 w ov tr cvs) (k : Below w.heap.size w w') : TO w0 w' ov tr cvs :=
  ⟨Below.via h.bel k, h.ge, h.len, own_kp h.row (Kp.of_below (S := fun _ => False) k) (fun _ _ e => e), fun j hj => ⟨Sl.below (h.kids j hj).1 k, (h.kids j hj).2⟩⟩
theorem TO.push {w0 w w' : World} {ov ov' cv : Value} {tr : List Nd} {cvs : List Value} {xs : List Int} {x : Int} (h : TO w0 w ov tr cvs) (hk : SlI w cv xs) (hne : 0 < xs.length → ∀ i, cv.ownBlock = some i → ov.ownBlock ≠ some i)
    (hrow : w'.ownsRow 0 47 2 ov' (tr.length + 1) (flat cvs tr ++ [cv, .int .i64 x])) (k : Kp (fun i => ov.ownBlock = some i) w w') (hn : ∀ i, ov'.ownBlock = some i → ov.ownBlock = some i ∨ w.heap.size ≤ i) : TO w0 w' ov' (tr ++ [(xs, x)]) (cvs ++ [cv]) := by
  have hl := h.len
  refine ⟨Below.put h.bel k (fun i hi => h.ge i hi), fun i hi => ?_, by simp [hl], ?_, fun j hj => ?_⟩
  · rcases hn i hi with e | e
    · exact h.ge i e
    · have := h.bel.size; omega
  · rw [flat_snoc _ _ _ _ hl, List.length_append, List.length_singleton]
    exact hrow
  · have hgen : ∀ (v : Value) (ys : List Int), SlI w v ys → (0 < ys.length → ∀ i, v.ownBlock = some i → ov.ownBlock ≠ some i) → SlI w' v ys ∧ (0 < ys.length → ∀ i, v.ownBlock = some i → ov'.ownBlock ≠ some i) := fun v ys hv hs => by
      refine ⟨sl_kp' hv k (fun hp i hi e => hs hp i hi e), fun hp i hi e => ?_⟩
      rcases hn i e with e2 | e2
      · exact hs hp i hi e2
      · have := Sl.lt hv hp hi; omega
    rw [List.length_append, List.length_singleton] at hj
    by_cases e : j = tr.length
    · subst e
      rw [app_last hl.symm, app_last rfl]
      exact hgen cv xs hk hne
    · rw [app_getD (by omega), app_getD (by omega)]
      exact hgen _ _ (h.kids j (by omega)).1 (h.kids j (by omega)).2
theorem TO.treeM {w0 w : World} {ov : Value} {tr : List Nd} {cvs : List Value} (h : TO w0 w ov tr cvs) : TreeM w ov tr := by
  by_cases hp : 0 < tr.length
  · obtain ⟨g, cap, rfl, hc⟩ := own_at h.row hp
    refine ⟨some ⟨g, 0, none⟩, cap, cvs, rfl, fun _ => ⟨_, rfl, fun j hj => ?_⟩, fun j hj => (h.kids j hj).1⟩
    have hf := flat_at cvs tr j h.len hj
    rw [add_lit, add_lit, Nat.zero_add]
    exact ⟨by rw [hc _ (by omega), hf.1], by rw [hc _ (by omega), hf.2]⟩
  · have h0 : tr = [] := List.eq_nil_of_length_eq_zero (by omega)
    subst h0
    rcases h.row.2 with ⟨h1, _⟩ | ⟨g, cap, cur, h1, _⟩
    · exact ⟨none, 0, cvs, h1, fun h => by simp at h, fun j hj => by simp at hj⟩
    · exact ⟨_, cap, cvs, h1, fun h => by simp at h, fun j hj => by simp at hj⟩
/-! ### Arguments -/
/-- A tree that comes in. -/
def ArgT (w : World) (v : Value) (l : List Nd) : Prop :=
  TreeM w v l ∧ l.length ≤ 9223372036854775807 ∧ ∀ i : Int, 0 ≤ i → i < l.length → ∃ a c A' c', v = .slice (some a) l.length c ∧ SlI w (.slice A' (kid l i).length c') (kid l i) ∧ (kid l i).length ≤ c' ∧
    (∀ w', Below w.heap.size w w' → w'.cell? (a.add (i.toNat * 2)) = some (.slice A' (kid l i).length c') ∧ w'.cell? ((a.add (i.toNat * 2)).add 1) = some (.int .i64 (wor l i)))
def Arg (w : World) (v : Value) (xs : List Int) : Prop := SlI w v xs ∧ ∃ A c, v = .slice A xs.length c ∧ xs.length ≤ c
theorem sl_take {α : Type} {enc : α → Value} {z : α} {w : World} {A : Option Addr} {m c : Nat} {xs : List α} (h : Sl enc z w (.slice A m c) xs) (q : Nat) (hq : q ≤ xs.length) : Sl enc z w (.slice A q c) (xs.take q) := by
  obtain ⟨h1, A', c', e, h2⟩ := h
  cases e
  have hl : (xs.take q).length = q := by rw [List.length_take]; omega
  refine ⟨by omega, A, c, by rw [hl], fun hp => ?_⟩
  obtain ⟨a, rfl, hc⟩ := h2 (by omega)
  refine ⟨a, rfl, fun j hj => ?_⟩
  rw [hc j (by omega)]
  simp [List.getD_eq_getElem?_getD, List.getElem?_take, show j < q by omega]
theorem list_c {w : World} {v : Value} {xs : List Int} (h : Arg w v xs) : Calls Try.prog 29 #[v] w (Ret fun r w' => OI 3 (Value.int .i64) w w' r (xs.take 61)) := by
  obtain ⟨hs, A, c, rfl, hc⟩ := h
  have hxl := Sl.len hs
  have hmin : min (xs.length : Int) 61 = ((min xs.length 61 : Nat) : Int) := by omega
  have htk : xs.take (min xs.length 61) = xs.take 61 := by
    rcases Nat.le_total xs.length 61 with h | h
    · rw [Nat.min_eq_left h, List.take_of_length_le (Nat.le_refl _), List.take_of_length_le h]
    · rw [Nat.min_eq_right h]
  refine calls_W (vs := [_]) Try.func29 rfl (by kernel_rfl) rfl ?_
  (repeat (first | with_reducible refine W.seq ?_ | with_reducible refine Ops.nil ?_ | with_reducible refine W.region ?_ | refine z_p (kk := ?_) | refine z_l (kk := ?_) | refine z_m (kk := ?_)))
  rw [hmin]
  refine Ops.slH rfl rfl rfl rfl rfl rfl rfl (by omega) (by omega) ?_
  rw [Int.toNat_natCast]
  refine Ops.appO (enc := Value.int .i64) (w0 := w) 0 rfl rfl rfl rfl rfl rfl rfl rfl rfl rfl (OI.nil (Below.refl _ _)) (sl_take hs (min xs.length 61) (by omega)) (Below.refl _ _) (fun _ => rfl) (by simp; omega) (fun v' w' hO _ _ => ?_)
  rw [htk, List.nil_append] at hO
  (repeat (first | with_reducible refine Ops.nil ?_ | refine z_p (kk := ?_)))
  exact W.fret rfl hO
def treeM (l : List Nd) : List Nd := (l.take 61).map fun x => (x.1.take 61, x.2)
theorem treeM_len (l : List Nd) : (treeM l).length = min 61 l.length := by simp [treeM]
theorem treeM_succ {l : List Nd} {i : Nat} (h : i < l.length) : (l.take (i + 1)).map (fun x : Nd => (x.1.take 61, x.2)) = (l.take i).map (fun x : Nd => (x.1.take 61, x.2)) ++ [((kid l i).take 61, wor l i)] := by
  rw [List.take_succ_eq_append_getElem h, List.map_append]
  simp [kid, wor, List.getD_eq_getElem?_getD, h]
set_option maxHeartbeats 2000000 in
theorem tree_c {w : World} {v : Value} {l : List Nd} (h : ArgT w v l) : Calls Try.prog 17 #[v] w (Ret fun r w' => Below w.heap.size w w' ∧ TreeM w' r (treeM l)) := by
  obtain ⟨hT, hll, hA⟩ := h
  obtain ⟨At, ct, rfl⟩ := hT.sl
  refine calls_W (vs := [_]) Try.func17 rfl (by kernel_rfl) rfl ?_
  (repeat (first | with_reducible refine W.seq ?_ | with_reducible refine Ops.nil ?_ | with_reducible refine W.region ?_ | refine z_p (kk := ?_) | with_reducible refine W.block ?_))
  refine W.loop (fun m ρ w3 => ∃ (i : Nat) (ov : Value) (cvs : List Value), m = l.length - i ∧ i ≤ l.length ∧ i ≤ 61 ∧ ρ = [(0, .slice At l.length ct), (3, ov), (4, .int .i64 i)] ∧ TO w w3 ov ((l.take i).map fun x => (x.1.take 61, x.2)) cvs)
    ⟨_, _, ⟨0, _, _, rfl, Nat.zero_le _, Nat.zero_le _, rfl, TO.nil (Below.refl _ _)⟩, (by repeat (first | exact trivial | refine And.intro rfl ?_))⟩ ?_
  rintro m ρ w3 ⟨i, ov, cvs, rfl, hi, hi2, rfl, hO⟩
  have hb3 := hO.bel
  by_cases hgo : i < l.length ∧ i ≤ 60
  · obtain ⟨g1, g2⟩ := hgo
    (repeat (first | with_reducible refine W.seq ?_ | with_reducible refine Ops.nil ?_ | with_reducible refine W.region ?_ | refine z_p (kk := ?_) | refine z_y (kk := ?_) | refine z_l (kk := ?_) | refine z_h (kk := ?_)))
    refine W.condT rfl (by first | rfl | assumption | (simp only [bnf] <;> omega) | (simp only [*, bnf]; done) | fail) ?_
    (repeat (first | with_reducible refine W.seq ?_ | with_reducible refine W.skip ?_ | with_reducible refine W.block ?_))
    obtain ⟨a, c, A', c', e, hsl, hcap, hcell⟩ := hA i (by omega) (by omega)
    cases e
    refine W.ord (hm := rfl) 99 (fun w' => Below w.heap.size w w') [(0, 1), (1, 1), (2, 1), (3, 1), (4, 1), (5, 2), (7, 1), (8, 1), (9, 1), (10, 1), (11, 2), (6, 0), (12, 1), (13, 0), (14, 0), (15, 1)] (by kernel_rfl) rfl (by kernel_rfl) (fun w4 k4 _ => ⟨Below.put hb3 k4 (fun _ e => e.elim), ?_⟩)
    have hO4 := hO.below (Kp.below k4 (Nat.le_refl _) (fun _ _ e => e))
    (repeat (first | refine y_p (kk := ?_)))
    refine VW.Ord.pure rfl rfl rfl rfl (fun _ _ _ h => h) (fun w => EV.idx rfl rfl rfl rfl rfl (by omega) (by omega)) ?_
    refine VW.Ord.pure rfl rfl rfl rfl (fun _ _ _ h => h) (fun w => EV.fld rfl rfl (ev_top _ _ _)) ?_
    rw [add_zero']
    refine VW.Ord.read' rfl rfl rfl rfl (fun _ _ _ h => h) (fun w hw => EV.ld rfl rfl (ev_top _ _ _) (hcell w hw).1) ?_
    (repeat (first | refine y_p (kk := ?_) | refine y_w (kk := fun _ _ => ?_)))
    refine VW.Ord.effF rfl (Ops.call rfl rfl rfl rfl rfl (list_c ⟨Sl.below hsl hO4.bel, A', c', rfl, hcap⟩) (fun r w5 hR => Ops.nil (W.endl ⟨Below.via hO4.bel hR.bel, ?_⟩)))
    have hO5 := hO4.below hR.bel
    have hr1 : r.oneCell' = true := by obtain ⟨A, c, rfl⟩ := hR.sh; rfl
    refine VW.Ord.pure rfl rfl rfl rfl (fun _ _ _ h => h) (fun w => EV.bld2 rfl rfl rfl rfl rfl hr1 rfl) ?_
    refine VW.Ord.push2 (w0 := w) rfl rfl rfl rfl rfl rfl rfl rfl rfl rfl rfl rfl rfl (fun _ => rfl) hr1 rfl hO5.row (by simp; omega) below_F hO5.bel hO5.ge (fun lv' p w6 hF6 hrow k6 hn6 => ?_)
    have hO6 := hO5.push (hR.sl (z := (0 : Int))) (fun hp j hj e => by have := hR.ge j hj; have := (hO4.row.lt j e).2; omega) hrow k6 hn6
    rw [← treeM_succ g1] at hO6
    (repeat (first | refine y_p (kk := ?_)))
    refine VW.Ord.nil ?_
    (repeat (first | with_reducible refine Ops.nil ?_ | with_reducible refine W.region ?_ | refine z_p (kk := ?_) | refine z_a (kk := ?_) | with_reducible refine W.endb ?_))
    exact W.endl ⟨_, _, ⟨⟨i + 1, _, _, rfl, by omega, by omega, rfl, hO6⟩, by omega⟩, (by repeat (first | exact trivial | refine And.intro rfl ?_))⟩
  · have hfin : (l.take i).map (fun x : Nd => (x.1.take 61, x.2)) = treeM l := by
      unfold treeM
      by_cases h1 : i < l.length
      · rw [show i = 61 by omega]
      · rw [List.take_of_length_le (by omega), List.take_of_length_le (by omega)]
    rw [hfin] at hO
    by_cases h1 : i < l.length
    · have h2 : ¬ i ≤ 60 := by omega
      (repeat (first | with_reducible refine W.seq ?_ | with_reducible refine Ops.nil ?_ | with_reducible refine W.region ?_ | refine z_p (kk := ?_) | refine z_y (kk := ?_) | refine z_l (kk := ?_) | refine z_h (kk := ?_)))
      refine W.condF rfl (by first | rfl | assumption | (simp only [bnf] <;> omega) | (simp only [*, bnf]; done) | fail) ?_
      (repeat (first | with_reducible refine W.seq ?_ | with_reducible refine Ops.nil ?_ | with_reducible refine W.region ?_ | refine z_p (kk := ?_) | refine W.exit rfl ?_))
      exact W.fret rfl ⟨hb3, hO.treeM⟩
    · (repeat (first | with_reducible refine W.seq ?_ | with_reducible refine Ops.nil ?_ | with_reducible refine W.region ?_ | refine z_p (kk := ?_) | refine z_n (kk := ?_) | refine z_l (kk := ?_) | refine z_g (kk := ?_)))
      refine W.condF rfl (by first | rfl | assumption | (simp only [bnf] <;> omega) | (simp only [*, bnf]; done) | fail) ?_
      (repeat (first | with_reducible refine W.seq ?_ | with_reducible refine Ops.nil ?_ | with_reducible refine W.region ?_ | refine z_p (kk := ?_) | refine W.exit rfl ?_))
      exact W.fret rfl ⟨hb3, hO.treeM⟩
theorem Arg.below {w w' : World} {v : Value} {xs : List Int} (h : Arg w v xs) (k : Below w.heap.size w w') : Arg w' v xs := ⟨Sl.below h.1 k, h.2⟩
theorem treeM_kid (l : List Nd) (i : Nat) : (kid (treeM l) i).length ≤ 61 := by
  unfold kid treeM
  rw [List.getD_eq_getElem?_getD, List.getElem?_map]
  cases hx : (l.take 61)[((i : Nat) : Int).toNat]? with
  | none => simp
  | some x => simp; omega
end Go.Proofs.Ytdiljpnfochndaa
namespace Go.Proofs.Ytdiljpnfochndaa
open Go Go.RowKit Go.Proofs.Ytdiljpnfochndaa.VW
open Go.Proofs.Ytdiljpnfochndaa.HP (Nd kid wor leafB)
attribute [local irreducible] W Ops OrdA VW.Ord OrdX
theorem flat_set : ∀ (cs : List Value) (xs : List Nd) (p : Nat) (v : Value) (ks : List Int), cs.length = xs.length → p < xs.length → (flat cs xs).set (p * 2) v = flat (cs.set p v) (xs.set p (ks, (xs.getD p ([], 0)).2))
  | [], [], _, _, _, _, h => by simp at h
  | a :: cs, y :: xs, 0, v, ks, _, _ => by simp [flat]
  | a :: cs, y :: xs, p + 1, v, ks, h, hp => by
    have := flat_set cs xs p v ks (by simpa using h) (by simpa using hp)
    rw [show (p + 1) * 2 = p * 2 + 1 + 1 by omega]
    simp only [flat, List.set_cons_succ, List.getD_cons_succ, this]
  | [], _ :: _, _, _, _, h, _ => by simp at h
  | _ :: _, [], _, _, _, h, _ => by simp at h
theorem ndD_set_eq {tr : List Nd} {p : Nat} {x : Nd} (h : p < tr.length) : (tr.set p x).getD p ([], 0) = x := by simp [List.getD_eq_getElem?_getD, h]
theorem ndD_set_ne {tr : List Nd} {p j : Nat} {x : Nd} (h : p ≠ j) : (tr.set p x).getD j ([], 0) = tr.getD j ([], 0) := by simp [List.getD_eq_getElem?_getD, h]
/-- A tree of the call's own, whose lists of children are its own too, each in its own block; all of them from block B on. -/
structure TQ (B : Nat) (w : World) (ov : Value) (tr : List Nd) (cvs : List Value) : Prop where
  ge : ∀ k, ov.ownBlock = some k → B ≤ k
  len : cvs.length = tr.length
  row : w.ownsRow 0 47 2 ov tr.length (flat cvs tr)
  own : ∀ j, j < tr.length → w.ownsRow 0 3 1 (cvs.getD j undef) (tr.getD j ([], 0)).1.length ((tr.getD j ([], 0)).1.map (Value.int .i64))
  sep : ∀ j, j < tr.length → ∀ k, (cvs.getD j undef).ownBlock = some k → B ≤ k ∧ ov.ownBlock ≠ some k
  two : ∀ j j', j < tr.length → j' < tr.length → j ≠ j' → ∀ k, (cvs.getD j undef).ownBlock = some k → (cvs.getD j' undef).ownBlock ≠ some k
/-- The blocks of such a tree. -/
def outB (ov : Value) (cvs : List Value) (k : Nat) : Prop := ov.ownBlock = some k ∨ ∃ j, j < cvs.length ∧ (cvs.getD j undef).ownBlock = some k
theorem TQ.nil (B : Nat) (w : World) : TQ B w (.slice none 0 0) [] [] :=
  ⟨fun k hk => by simp [Value.ownBlock] at hk, rfl, World.ownsRow_nil w 0 47 2, fun j hj => by simp at hj, fun j hj => by simp at hj, fun j j' hj => by simp at hj⟩
theorem TQ.kp {B : Nat} {w w' : World} {ov : Value} {tr : List Nd} {cvs : List Value} {S : Nat → Prop} (h : TQ B w ov tr cvs) (k : Kp S w w') (hs : ∀ i, outB ov cvs i → ¬ S i) : TQ B w' ov tr cvs :=
  ⟨h.ge, h.len, own_kp h.row k (fun i hi => hs i (.inl hi)), fun j hj => own_kp (h.own j hj) k (fun i hi => hs i (.inr ⟨j, by rw [h.len]; exact hj, hi⟩)), h.sep, h.two⟩
theorem TQ.lt {B : Nat} {w : World} {ov : Value} {tr : List Nd} {cvs : List Value} (h : TQ B w ov tr cvs) {k : Nat} (hk : outB ov cvs k) : B ≤ k ∧ k < w.heap.size := by
  rcases hk with e | ⟨j, hj, e⟩
  · exact ⟨h.ge k e, (h.row.lt k e).2⟩
  · rw [h.len] at hj
    exact ⟨(h.sep j hj k e).1, ((h.own j hj).lt k e).2⟩
theorem TQ.below {B : Nat} {w w' : World} {ov : Value} {tr : List Nd} {cvs : List Value} (h : TQ B w ov tr cvs) (k : Below w.heap.size w w') : TQ B w' ov tr cvs :=
  h.kp (Kp.of_below (S := fun _ => False) k) (fun _ _ e => e)
theorem TQ.treeM {B : Nat} {w : World} {ov : Value} {tr : List Nd} {cvs : List Value} (h : TQ B w ov tr cvs) : TreeM w ov tr := by
  by_cases hp : 0 < tr.length
  · obtain ⟨g, cap, rfl, hc⟩ := own_at h.row hp
    refine ⟨some ⟨g, 0, none⟩, cap, cvs, rfl, fun _ => ⟨_, rfl, fun j hj => ?_⟩, fun j hj => own_sl (h.own j hj)⟩
    have hf := flat_at cvs tr j h.len hj
    rw [add_lit, add_lit, Nat.zero_add]
    exact ⟨by rw [hc _ (by omega), hf.1], by rw [hc _ (by omega), hf.2]⟩
  · have h0 : tr = [] := List.eq_nil_of_length_eq_zero (by omega)
    subst h0
    rcases h.row.2 with ⟨h1, _⟩ | ⟨g, cap, cur, h1, _⟩
    · exact ⟨none, 0, cvs, h1, fun h => by simp at h, fun j hj => by simp at hj⟩
    · exact ⟨_, cap, cvs, h1, fun h => by simp at h, fun j hj => by simp at hj⟩
/-- The cell of the children of an element. -/
theorem TQ.cell {B : Nat} {w : World} {ov : Value} {tr : List Nd} {cvs : List Value} (h : TQ B w ov tr cvs) {p : Nat} (hp : p < tr.length) : ∃ g cap, ov = .slice (some ⟨g, 0, none⟩) tr.length cap ∧ w.cell? ⟨g, p * 2, none⟩ = some (cvs.getD p undef) := by
  obtain ⟨g, cap, e, hc⟩ := own_at h.row (by omega)
  have hf := flat_at cvs tr p h.len hp
  exact ⟨g, cap, e, by rw [hc _ (by omega), hf.1]⟩
/-- A node without children more. -/
theorem TQ.push {B : Nat} {w w' : World} {ov ov' : Value} {tr : List Nd} {cvs : List Value} {x : Int} (h : TQ B w ov tr cvs) (hB : B ≤ w.heap.size)
    (hrow : w'.ownsRow 0 47 2 ov' (tr.length + 1) (flat cvs tr ++ [.slice none 0 0, .int .i64 x])) (k : Kp (fun i => ov.ownBlock = some i) w w') (hn : ∀ i, ov'.ownBlock = some i → ov.ownBlock = some i ∨ w.heap.size ≤ i) : TQ B w' ov' (tr ++ [([], x)]) (cvs ++ [.slice none 0 0]) := by
  have hl := h.len
  have hb : ∀ i, ov'.ownBlock = some i → B ≤ i := fun i hi => by
    rcases hn i hi with e | e
    · exact h.ge i e
    · omega
  refine ⟨hb, by simp [hl], ?_, fun j hj => ?_, fun j hj i hi => ?_, fun j j' hj hj' hne i hi => ?_⟩
  · rw [flat_snoc _ _ _ _ hl, List.length_append, List.length_singleton]
    exact hrow
  · rw [List.length_append, List.length_singleton] at hj
    by_cases e : j = tr.length
    · subst e
      rw [app_last hl.symm, app_last rfl]
      exact own_nil _ _ _
    · rw [app_getD (by omega), app_getD (by omega)]
      exact own_kp (h.own j (by omega)) k (fun i hi e2 => (h.sep j (by omega) i hi).2 e2)
  · rw [List.length_append, List.length_singleton] at hj
    by_cases e : j = tr.length
    · subst e
      rw [app_last hl.symm] at hi
      simp [Value.ownBlock] at hi
    · rw [app_getD (by omega)] at hi
      refine ⟨(h.sep j (by omega) i hi).1, fun e2 => ?_⟩
      rcases hn i e2 with e3 | e3
      · exact (h.sep j (by omega) i hi).2 e3
      · have := ((h.own j (by omega)).lt i hi).2; omega
  · rw [List.length_append, List.length_singleton] at hj hj'
    by_cases e : j = tr.length
    · subst e
      rw [app_last hl.symm] at hi
      simp [Value.ownBlock] at hi
    · by_cases e' : j' = tr.length
      · subst e'
        rw [app_last hl.symm]
        simp [Value.ownBlock]
      · rw [app_getD (by omega)] at hi
        rw [app_getD (by omega)]
        exact h.two j j' (by omega) (by omega) hne i hi
/-- A child more. -/
theorem TQ.grow {B : Nat} {w w1 w' : World} {ov lv' : Value} {tr : List Nd} {cvs : List Value} {p : Nat} {x : Int} (h : TQ B w ov tr cvs) (hB : B ≤ w.heap.size) (hp : p < tr.length)
    (ho : w1.ownsRow 0 3 1 lv' ((kid tr p).length + 1) ((kid tr p).map (Value.int .i64) ++ [.int .i64 x])) (k : Kp (fun i => (cvs.getD p undef).ownBlock = some i) w w1)
    (hn : ∀ i, lv'.ownBlock = some i → (cvs.getD p undef).ownBlock = some i ∨ w.heap.size ≤ i) (ho' : w'.ownsRow 0 47 2 ov tr.length ((flat cvs tr).set (p * 2) lv')) (k' : Kp (fun i => ov.ownBlock = some i) w1 w') : TQ B w' ov (tr.set p (kid tr p ++ [x], wor tr p)) (cvs.set p lv') := by
  have hl := h.len
  have hsep : ∀ i, lv'.ownBlock = some i → B ≤ i ∧ ov.ownBlock ≠ some i := fun i hi => by
    rcases hn i hi with e | e
    · exact h.sep p hp i e
    · exact ⟨by omega, fun e2 => by have := (h.row.lt i e2).2; omega⟩
  have hkid : (tr.getD p ([], 0)).1 = kid tr p := by simp [Go.Proofs.Ytdiljpnfochndaa.HP.kid]
  refine ⟨h.ge, by simp [hl], ?_, fun j hj => ?_, fun j hj i hi => ?_, fun j j' hj hj' hne i hi => ?_⟩
  · rw [flat_set _ _ _ _ (kid tr p ++ [x]) hl hp] at ho'
    rw [List.length_set]
    simpa [Go.Proofs.Ytdiljpnfochndaa.HP.wor] using ho'
  · rw [List.length_set] at hj
    by_cases e : p = j
    · subst e
      rw [lgetD_set_eq (by omega), ndD_set_eq hp]
      have := own_kp ho k' (fun i hi e => (hsep i hi).2 e)
      simpa using this
    · rw [lgetD_set_ne e, ndD_set_ne e]
      exact own_kp (own_kp (h.own j hj) k (fun i hi e2 => h.two p j hp hj e i e2 hi)) k' (fun i hi e2 => (h.sep j hj i hi).2 e2)
  · rw [List.length_set] at hj
    by_cases e : p = j
    · subst e
      rw [lgetD_set_eq (by omega)] at hi
      exact hsep i hi
    · rw [lgetD_set_ne e] at hi
      exact h.sep j hj i hi
  · rw [List.length_set] at hj hj'
    by_cases e : p = j
    · subst e
      rw [lgetD_set_eq (by omega)] at hi
      rw [lgetD_set_ne hne]
      rcases hn i hi with e2 | e2
      · exact h.two p j' hp hj' hne i e2
      · intro e3; have := ((h.own j' hj').lt i e3).2; omega
    · rw [lgetD_set_ne e] at hi
      by_cases e' : p = j'
      · subst e'
        rw [lgetD_set_eq (by omega)]
        intro e3
        rcases hn i e3 with e4 | e4
        · exact h.two j p hj hp hne i hi e4
        · have := ((h.own j hj).lt i hi).2; omega
      · rw [lgetD_set_ne e']
        exact h.two j j' hj hj' hne i hi
/-- A node with children of its own more. -/
theorem TQ.pushK {B : Nat} {w w' : World} {ov ov' cv : Value} {tr : List Nd} {cvs : List Value} {xs : List Int} {x : Int} (h : TQ B w ov tr cvs) (hB : B ≤ w.heap.size)
    (hc : w.ownsRow 0 3 1 cv xs.length (xs.map (Value.int .i64))) (hge : ∀ k, cv.ownBlock = some k → B ≤ k ∧ ¬ (ov.ownBlock = some k ∨ ∃ j, j < cvs.length ∧ (cvs.getD j undef).ownBlock = some k))
    (hrow : w'.ownsRow 0 47 2 ov' (tr.length + 1) (flat cvs tr ++ [cv, .int .i64 x])) (k : Kp (fun i => ov.ownBlock = some i) w w') (hn : ∀ i, ov'.ownBlock = some i → ov.ownBlock = some i ∨ w.heap.size ≤ i) : TQ B w' ov' (tr ++ [(xs, x)]) (cvs ++ [cv]) := by
  have hl := h.len
  have hb : ∀ i, ov'.ownBlock = some i → B ≤ i := fun i hi => by
    rcases hn i hi with e | e
    · exact h.ge i e
    · omega
  refine ⟨hb, by simp [hl], ?_, fun j hj => ?_, fun j hj i hi => ?_, fun j j' hj hj' hne i hi => ?_⟩
  · rw [flat_snoc _ _ _ _ hl, List.length_append, List.length_singleton]
    exact hrow
  · rw [List.length_append, List.length_singleton] at hj
    by_cases e : j = tr.length
    · subst e
      rw [app_last hl.symm, app_last rfl]
      exact own_kp hc k (fun i hi e2 => (hge i hi).2 (.inl e2))
    · rw [app_getD (by omega), app_getD (by omega)]
      exact own_kp (h.own j (by omega)) k (fun i hi e2 => (h.sep j (by omega) i hi).2 e2)
  · rw [List.length_append, List.length_singleton] at hj
    by_cases e : j = tr.length
    · subst e
      rw [app_last hl.symm] at hi
      refine ⟨(hge i hi).1, fun e2 => ?_⟩
      rcases hn i e2 with e3 | e3
      · exact (hge i hi).2 (.inl e3)
      · have := (hc.lt i hi).2; omega
    · rw [app_getD (by omega)] at hi
      refine ⟨(h.sep j (by omega) i hi).1, fun e2 => ?_⟩
      rcases hn i e2 with e3 | e3
      · exact (h.sep j (by omega) i hi).2 e3
      · have := ((h.own j (by omega)).lt i hi).2; omega
  · rw [List.length_append, List.length_singleton] at hj hj'
    by_cases e : j = tr.length
    · subst e
      rw [app_last hl.symm] at hi
      rw [app_getD (by omega)]
      exact fun e3 => (hge i hi).2 (.inr ⟨j', by omega, e3⟩)
    · by_cases e' : j' = tr.length
      · subst e'
        rw [app_getD (by omega)] at hi
        rw [app_last hl.symm]
        exact fun e3 => (hge i e3).2 (.inr ⟨j, by omega, hi⟩)
      · rw [app_getD (by omega)] at hi
        rw [app_getD (by omega)]
        exact h.two j j' (by omega) (by omega) hne i hi
theorem flat_append : ∀ (cs : List Value) (xs : List Nd) (cs' : List Value) (xs' : List Nd), cs.length = xs.length → flat (cs ++ cs') (xs ++ xs') = flat cs xs ++ flat cs' xs'
  | [], [], _, _, _ => rfl
  | a :: cs, y :: xs, cs', xs', h => by
    simp only [List.cons_append, flat]
    rw [flat_append cs xs cs' xs' (by simpa using h)]
  | [], _ :: _, _, _, h => by simp at h
  | _ :: _, [], _, _, h => by simp at h
theorem flat_len : ∀ (cs : List Value) (xs : List Nd), cs.length = xs.length → (flat cs xs).length = xs.length * 2
  | [], [], _ => rfl
  | a :: cs, y :: xs, h => by
    simp only [flat, List.length_cons]
    rw [flat_len cs xs (by simpa using h)]
    omega
  | [], _ :: _, h => by simp at h
  | _ :: _, [], h => by simp at h
theorem flat_same : ∀ (cs : List Value) (xs : List Nd) (p : Nat) (ks : List Int), flat cs (xs.set p (ks, (xs.getD p ([], 0)).2)) = flat cs xs
  | [], xs, p, ks => by cases xs <;> simp [flat]
  | a :: cs, [], p, ks => by simp [flat]
  | a :: cs, y :: xs, 0, ks => by simp [flat]
  | a :: cs, y :: xs, p + 1, ks => by
    have := flat_same cs xs p ks
    simp only [List.set_cons_succ, flat, List.getD_cons_succ, this]
theorem vgl {xs ys : List Value} {j : Nat} (h : j < xs.length) : (xs ++ ys).getD j undef = xs.getD j undef := by simp [List.getD_eq_getElem?_getD, List.getElem?_append_left h]
theorem vgr {xs ys : List Value} {j : Nat} (h : xs.length ≤ j) : (xs ++ ys).getD j undef = ys.getD (j - xs.length) undef := by simp [List.getD_eq_getElem?_getD, List.getElem?_append_right h]
theorem ngl {xs ys : List Nd} {j : Nat} (h : j < xs.length) : (xs ++ ys).getD j ([], 0) = xs.getD j ([], 0) := by simp [List.getD_eq_getElem?_getD, List.getElem?_append_left h]
theorem ngr {xs ys : List Nd} {j : Nat} (h : xs.length ≤ j) : (xs ++ ys).getD j ([], 0) = ys.getD (j - xs.length) ([], 0) := by simp [List.getD_eq_getElem?_getD, List.getElem?_append_right h]
/-- Two trees, one behind the other. -/
theorem TQ.app {B B' : Nat} {w w' : World} {ov bv ov' : Value} {tr tr' : List Nd} {cvs cvs' : List Value} (h : TQ B w ov tr cvs) (h' : TQ B' w bv tr' cvs') (hB : B ≤ w.heap.size) (hBB : B ≤ B') (hd : ∀ k, outB bv cvs' k → ¬ outB ov cvs k)
    (hrow : w'.ownsRow 0 47 2 ov' (tr.length + tr'.length) (flat cvs tr ++ flat cvs' tr')) (k : Kp (fun i => ov.ownBlock = some i) w w') (hn : ∀ i, ov'.ownBlock = some i → ov.ownBlock = some i ∨ w.heap.size ≤ i) : TQ B w' ov' (tr ++ tr') (cvs ++ cvs') := by
  have hl := h.len
  have hl' := h'.len
  have hn1 : ∀ j, j < tr.length → ∀ i, (cvs.getD j undef).ownBlock = some i → ov'.ownBlock ≠ some i := fun j hj i hi e => by
    rcases hn i e with e3 | e3
    · exact (h.sep j hj i hi).2 e3
    · have := ((h.own j hj).lt i hi).2; omega
  have hn2 : ∀ j, j < tr'.length → ∀ i, (cvs'.getD j undef).ownBlock = some i → ov'.ownBlock ≠ some i := fun j hj i hi e => by
    rcases hn i e with e3 | e3
    · exact hd i (.inr ⟨j, by omega, hi⟩) (.inl e3)
    · have := ((h'.own j hj).lt i hi).2; omega
  refine ⟨fun i hi => ?_, by simp [hl, hl'], ?_, fun j hj => ?_, fun j hj i hi => ?_, fun j j' hj hj' hne i hi => ?_⟩
  · rcases hn i hi with e | e
    · exact h.ge i e
    · omega
  · rw [flat_append _ _ _ _ hl, List.length_append]
    exact hrow
  · rw [List.length_append] at hj
    by_cases e : j < tr.length
    · rw [vgl (by omega), ngl e]
      exact own_kp (h.own j e) k (fun i hi e2 => (h.sep j e i hi).2 e2)
    · rw [vgr (by omega), ngr (by omega), hl]
      exact own_kp (h'.own _ (by omega)) k (fun i hi e2 => hd i (.inr ⟨j - tr.length, by omega, hi⟩) (.inl e2))
  · rw [List.length_append] at hj
    by_cases e : j < tr.length
    · rw [vgl (by omega)] at hi
      exact ⟨(h.sep j e i hi).1, hn1 j e i hi⟩
    · rw [vgr (by omega), hl] at hi
      exact ⟨by have := (h'.sep _ (by omega) i hi).1; omega, hn2 _ (by omega) i hi⟩
  · rw [List.length_append] at hj hj'
    by_cases e : j < tr.length
    · rw [vgl (by omega)] at hi
      by_cases e' : j' < tr.length
      · rw [vgl (by omega)]; exact h.two j j' e e' hne i hi
      · rw [vgr (by omega), hl]
        exact fun e3 => hd i (.inr ⟨_, by omega, e3⟩) (.inr ⟨j, by omega, hi⟩)
    · rw [vgr (by omega), hl] at hi
      by_cases e' : j' < tr.length
      · rw [vgl (by omega)]
        exact fun e3 => hd i (.inr ⟨_, by omega, hi⟩) (.inr ⟨j', by omega, e3⟩)
      · rw [vgr (by omega), hl]
        exact h'.two _ _ (by omega) (by omega) (by omega) i hi
/-- A number of the children of a node, written. -/
theorem TQ.setK {B : Nat} {w w' : World} {ov : Value} {tr : List Nd} {cvs : List Value} {p : Nat} {ks : List Int} (h : TQ B w ov tr cvs) (hp : p < tr.length)
    (ho : w'.ownsRow 0 3 1 (cvs.getD p undef) ks.length (ks.map (Value.int .i64))) (k : Kp (fun i => (cvs.getD p undef).ownBlock = some i) w w') : TQ B w' ov (tr.set p (ks, (tr.getD p ([], 0)).2)) cvs := by
  have hl := h.len
  refine ⟨h.ge, by simp [hl], ?_, fun j hj => ?_, fun j hj i hi => ?_, fun j j' hj hj' hne i hi => ?_⟩
  · rw [flat_same, List.length_set]
    exact own_kp h.row k (fun i hi e => (h.sep p hp i e).2 hi)
  · rw [List.length_set] at hj
    by_cases e : p = j
    · subst e
      rw [ndD_set_eq hp]
      exact ho
    · rw [ndD_set_ne e]
      exact own_kp (h.own j hj) k (fun i hi e2 => h.two p j hp hj e i e2 hi)
  · rw [List.length_set] at hj
    exact h.sep j hj i hi
  · rw [List.length_set] at hj hj'
    exact h.two j j' hj hj' hne i hi
theorem TQ.to {w0 w : World} {ov : Value} {tr : List Nd} {cvs : List Value} (h : TQ w0.heap.size w ov tr cvs) (hb : Below w0.heap.size w0 w) : TO w0 w ov tr cvs :=
  ⟨hb, h.ge, h.len, h.row, fun j hj => ⟨own_sl (h.own j hj), fun _ i hi e => (h.sep j hj i hi).2 e⟩⟩
theorem outB_push {ov ov' : Value} {cvs : List Value} {w : World} (hn : ∀ i, ov'.ownBlock = some i → ov.ownBlock = some i ∨ w.heap.size ≤ i) : ∀ k, outB ov' (cvs ++ [.slice none 0 0]) k → outB ov cvs k ∨ w.heap.size ≤ k := fun k hk => by
  rcases hk with e | ⟨j, hj, e⟩
  · rcases hn k e with h | h
    · exact .inl (.inl h)
    · exact .inr h
  · rw [List.length_append, List.length_singleton] at hj
    by_cases e2 : j = cvs.length
    · subst e2
      rw [app_last rfl] at e
      simp [Value.ownBlock] at e
    · rw [app_getD (by omega)] at e
      exact .inl (.inr ⟨j, by omega, e⟩)
theorem outB_set {ov lv' : Value} {cvs : List Value} {w : World} {p : Nat} (hp : p < cvs.length) (hn : ∀ i, lv'.ownBlock = some i → (cvs.getD p undef).ownBlock = some i ∨ w.heap.size ≤ i) : ∀ k, outB ov (cvs.set p lv') k → outB ov cvs k ∨ w.heap.size ≤ k := fun k hk => by
  rcases hk with e | ⟨j, hj, e⟩
  · exact .inl (.inl e)
  · rw [List.length_set] at hj
    by_cases e2 : p = j
    · subst e2
      rw [lgetD_set_eq hj] at e
      rcases hn k e with h | h
      · exact .inl (.inr ⟨p, hj, h⟩)
      · exact .inr h
    · rw [lgetD_set_ne e2] at e
      exact .inl (.inr ⟨j, hj, e⟩)
end Go.Proofs.Ytdiljpnfochndaa
/- Values in bounds; and that there are values. -/
namespace Go.Proofs.Ytdiljpnfochndaa.HP
theorem val_bd {l : List Nd} {dep : List Int} (hT : TF l dep) {wf : Int → Int} {vs : List Int} (hv : ValP l dep wf vs) {lo hi : Int} (h : ∀ i : Nat, i < l.length → leafB l i = true → lo ≤ wf i ∧ wf i ≤ hi) : ∀ j : Nat, j < l.length → lo ≤ vs.getD j 0 ∧ vs.getD j 0 ≤ hi := by
  refine tree_ind hT (Q := fun j => lo ≤ vs.getD j 0 ∧ vs.getD j 0 ≤ hi) fun j hj hk => ?_
  have kD : ∀ x ∈ kid l j, lo ≤ rd vs x ∧ rd vs x ≤ hi := fun x hx => by obtain ⟨i, rfl, hi, h⟩ := hk x hx; exact h
  rw [hv.at_ j hj]
  unfold NV
  by_cases hl : leafB l j = true
  · rw [if_pos hl]; exact h j hj hl
  · have hne := leaf_ne hl
    obtain ⟨c, hc⟩ := List.exists_mem_of_ne_nil _ hne
    rw [if_neg hl]
    by_cases he : evB dep j = true
    · rw [if_pos he, maxL_ge hne, maxL_le hne]
      exact ⟨⟨c, hc, (kD c hc).1⟩, fun x hx => (kD x hx).2⟩
    · rw [if_neg he, minL_ge hne, minL_le hne]
      exact ⟨fun x hx => (kD x hx).1, ⟨c, hc, (kD c hc).2⟩⟩
theorem val_ex {l : List Nd} {dep : List Int} (hT : TF l dep) (wf : Int → Int) : ∃ vs, ValP l dep wf vs := by
  have key : ∀ d q : Nat, l.length - q = d → q ≤ l.length → ∃ os : List Int, os.length = l.length ∧ ∀ j : Nat, q ≤ j → j < l.length → os.getD j 0 = NV l dep wf os j := by
    intro d
    induction d with
    | zero => intro q hd hq; exact ⟨List.replicate l.length 0, by simp, fun j h1 h2 => by omega⟩
    | succ d ih =>
      intro q hd hq
      obtain ⟨os, h1, h2⟩ := ih (q + 1) (by omega) (by omega)
      exact ⟨os.set q (NV l dep wf os q), by simp [h1], val_set hT (by omega) h1 rfl h2⟩
  obtain ⟨os, h1, h2⟩ := key _ 0 rfl (Nat.zero_le _)
  exact ⟨os, h1, fun j hj => h2 j (Nat.zero_le _) hj⟩
theorem wor_bd {l : List Nd} {dep : List Int} (hT : TF l dep) {vs : List Int} (hv : ValP l dep (wor l) vs) : -100 ≤ vs.getD 0 0 ∧ vs.getD 0 0 ≤ 100 :=
  val_bd hT hv (fun i hi _ => ⟨(hT.wor i hi).1, (hT.wor i hi).2.1⟩) 0 (by have := hT.n1; omega)
end Go.Proofs.Ytdiljpnfochndaa.HP
/- The line of best moves. -/
namespace Go.Proofs.Ytdiljpnfochndaa.HP
def bestM' (vs : List Int) (x : Int) : List Int → Int
  | [] => -1
  | c :: r => if rd vs c = x then c else bestM' vs x r
theorem bestM_mem {vs : List Int} {x : Int} : ∀ {cs : List Int}, (∃ c ∈ cs, rd vs c = x) → bestM' vs x cs ∈ cs ∧ rd vs (bestM' vs x cs) = x
  | [], ⟨c, hc, _⟩ => by simp at hc
  | c :: r, ⟨d, hd, he⟩ => by
    simp only [bestM']
    split
    · rename_i h; exact ⟨by simp, h⟩
    · rename_i h
      have := bestM_mem (cs := r) ⟨d, by rcases List.mem_cons.1 hd with rfl | hd; exact absurd he h; exact hd, he⟩
      exact ⟨by simp [this.1], this.2⟩
theorem maxL_mem {cs : List Int} {g : Int → Int} (h : cs ≠ []) : ∃ c ∈ cs, g c = maxL (cs.map g) := by
  obtain ⟨c, hc, h1⟩ := (maxL_ge (g := g) (b := maxL (cs.map g)) h).1 (Int.le_refl _)
  exact ⟨c, hc, Int.le_antisymm ((maxL_le h).1 (Int.le_refl _) c hc) h1⟩
theorem minL_mem {cs : List Int} {g : Int → Int} (h : cs ≠ []) : ∃ c ∈ cs, g c = minL (cs.map g) := by
  obtain ⟨c, hc, h1⟩ := (minL_le (g := g) (b := minL (cs.map g)) h).1 (Int.le_refl _)
  exact ⟨c, hc, Int.le_antisymm h1 ((minL_ge h).1 (Int.le_refl _) c hc)⟩
theorem val_att {l : List Nd} {dep : List Int} {wf : Int → Int} {vs : List Int} (hv : ValP l dep wf vs) {i : Nat} (hi : i < l.length) (hl : leafB l i = false) : ∃ c ∈ kid l i, rd vs c = rd vs i := by
  have hne : kid l i ≠ [] := leaf_ne (by rw [hl]; simp)
  have h := hv.at_ i hi
  unfold NV at h
  rw [hl] at h
  simp only [Bool.false_eq_true, if_false] at h
  show ∃ c ∈ kid l i, rd vs c = vs.getD (i : Int).toNat 0
  rw [Int.toNat_natCast, h]
  split
  · exact maxL_mem hne
  · exact minL_mem hne
/-- The k-th node of the line. -/
def lineN (l : List Nd) (vs : List Int) : Nat → Int
  | 0 => 0
  | k + 1 => bestM' vs (rd vs (lineN l vs k)) (kid l (lineN l vs k))
def LineS (l : List Nd) (vs out : List Int) : Prop := ∃ k, out = (List.range (k + 1)).map (lineN l vs) ∧ (∀ j, j < k → leafB l (lineN l vs j) = false) ∧ leafB l (lineN l vs k) = true
theorem LineS.uniq {l : List Nd} {vs a b : List Int} (ha : LineS l vs a) (hb : LineS l vs b) : a = b := by
  obtain ⟨k, rfl, h1, h2⟩ := ha
  obtain ⟨m, rfl, h3, h4⟩ := hb
  rcases Nat.lt_trichotomy k m with h | h | h
  · rw [h3 k h] at h2; cases h2
  · rw [h]
  · rw [h1 m h] at h4; cases h4
theorem line_step {l : List Nd} {dep : List Int} {wf : Int → Int} {vs : List Int} (hT : TF l dep) (hv : ValP l dep wf vs) {k : Nat} {i : Nat} (hk : lineN l vs k = i) (hi : i < l.length) (hl : leafB l i = false) :
    ∃ j : Nat, lineN l vs (k + 1) = j ∧ i < j ∧ j < l.length ∧ vs.getD j 0 = vs.getD i 0 := by
  have h := bestM_mem (val_att hv hi hl)
  obtain ⟨h1, h2⟩ := mem_kid hT hi h.1
  refine ⟨(bestM' vs (rd vs i) (kid l i)).toNat, ?_, by omega, by omega, ?_⟩
  · show bestM' vs (rd vs (lineN l vs k)) (kid l (lineN l vs k)) = _
    rw [hk]; omega
  · have h3 := h.2
    simp only [rd, Int.toNat_natCast] at h3 ⊢
    exact h3
theorem range_snoc (f : Nat → Int) (k : Nat) : (List.range (k + 1 + 1)).map f = (List.range (k + 1)).map f ++ [f (k + 1)] := by
  rw [List.range_succ, List.map_append]; rfl
end Go.Proofs.Ytdiljpnfochndaa.HP
/- Plans. -/
namespace Go.Proofs.Ytdiljpnfochndaa.HP
/-- Before node i: which nodes are reached, and the plan so far. -/
structure PI (l : List Nd) (dep : List Int) (ch : Int → Int) (i : Nat) (f : Int → Bool) (out : List Int) : Prop where
  r0 : f 0 = true
  step : ∀ a b : Nat, a < i → b < (kid l a).length → f (k_ l a b) = (f a && (!evB dep a || decide (k_ l a b = ch a)))
  only : ∀ c : Int, f c = true → c = 0 ∨ ∃ a b : Nat, a < i ∧ b < (kid l a).length ∧ k_ l a b = c
  len : out.length = l.length
  done : ∀ j : Nat, j < i → out.getD j 0 = if f j && evB dep j && !leafB l j then ch j else -1
  rest : ∀ j : Nat, i ≤ j → j < l.length → out.getD j 0 = -1
def PlanS (l : List Nd) (dep : List Int) (ch : Int → Int) (f : Int → Bool) (out : List Int) : Prop := PI l dep ch l.length f out
theorem PI.start (l : List Nd) (dep : List Int) (ch : Int → Int) : PI l dep ch 0 (fun k => k == 0) (List.replicate l.length (-1)) :=
  ⟨rfl, fun a b h => by omega, fun c h => .inl (by simpa using h), by simp, fun j h => by omega, fun j _ h => by simp [List.getD_eq_getElem?_getD, h]⟩
theorem kid_mem_at {l : List Nd} {i : Nat} {c : Int} (h : c ∈ kid l i) : ∃ b : Nat, b < (kid l i).length ∧ k_ l i b = c := by
  obtain ⟨b, hb, e⟩ := kid_at h
  exact ⟨b, hb, e⟩
/-- A kid of node i is not reached before. -/
theorem PI.fresh {l : List Nd} {dep : List Int} {ch : Int → Int} {i : Nat} {f : Int → Bool} {out : List Int} (h : PI l dep ch i f out) (hT : TF l dep) (hi : i < l.length) {b : Nat} (hb : b < (kid l i).length) : f (k_ l i b) = false := by
  have hk := hT.kin i b hi hb
  cases hf : f (k_ l i b) with
  | false => rfl
  | true =>
    rcases h.only _ hf with e | ⟨a, b', ha, hb', e⟩
    · omega
    · have := (hT.inj a b' i b (by omega) hb' hi hb e).1
      omega
theorem PI.skip {l : List Nd} {dep : List Int} {ch : Int → Int} {i : Nat} {f : Int → Bool} {out : List Int} (h : PI l dep ch i f out) (hT : TF l dep) (hi : i < l.length) (hs : f i = false ∨ leafB l i = true) : PI l dep ch (i + 1) f out := by
  refine ⟨h.r0, fun a b ha hb => ?_, fun c hc => ?_, h.len, fun j hj => ?_, fun j h1 h2 => h.rest j (by omega) h2⟩
  · by_cases e : a = i
    · subst e
      rw [h.fresh hT hi hb]
      rcases hs with hs | hs
      · rw [hs]; rfl
      · have : kid l a = [] := by unfold leafB at hs; simpa using hs
        rw [this] at hb; simp at hb
    · exact h.step a b (by omega) hb
  · rcases h.only c hc with e | ⟨a, b, ha, hb, e⟩
    · exact .inl e
    · exact .inr ⟨a, b, by omega, hb, e⟩
  · by_cases e : j = i
    · subst e
      rw [h.rest j (Nat.le_refl _) hi, if_neg]
      rcases hs with hs | hs <;> simp [hs]
    · exact h.done j (by omega)
theorem PI.max {l : List Nd} {dep : List Int} {ch : Int → Int} {i : Nat} {f : Int → Bool} {out : List Int} (h : PI l dep ch i f out) (hT : TF l dep) (hi : i < l.length) (hf : f i = true) (hl : leafB l i = false) (he : evB dep i = true) (hc : ch i ∈ kid l i) :
    PI l dep ch (i + 1) (fun k => f k || k == ch i) (out.set i (ch i)) := by
  obtain ⟨b0, hb0, e0⟩ := kid_mem_at hc
  have hk0 := hT.kin i b0 hi hb0
  have hol := h.len
  have hne : ∀ j : Nat, j ≤ i → ((j : Int) == ch i) = false := fun j hj => by simp; omega
  have hfr : ∀ {b : Nat}, b < (kid l i).length → f (k_ l i b) = false := fun hb => h.fresh hT hi hb
  refine ⟨by simp [h.r0], fun a b ha hb => ?_, fun c hc' => ?_, by simp [hol], fun j hj => ?_, fun j h1 h2 => ?_⟩
  · by_cases e : a = i
    · subst e
      rw [hfr hb, hne a (Nat.le_refl _), hf, he]
      simp
      rfl
    · have hka := hT.kin a b (by omega) hb
      have hk1 : (k_ l a b == ch i) = false := by
        simp only [beq_eq_false_iff_ne]
        intro e2
        exact e (hT.inj a b i b0 (by omega) hb hi hb0 (by omega)).1
      rw [hk1, hne a (by omega), Bool.or_false, Bool.or_false]
      exact h.step a b (by omega) hb
  · simp only [Bool.or_eq_true, beq_iff_eq] at hc'
    rcases hc' with hc' | hc'
    · rcases h.only c hc' with e | ⟨a, b, ha, hb, e⟩
      · exact .inl e
      · exact .inr ⟨a, b, by omega, hb, e⟩
    · exact .inr ⟨i, b0, by omega, hb0, by rw [e0, hc']⟩
  · rw [hne j (by omega), Bool.or_false]
    by_cases e : i = j
    · subst e
      rw [getD_set_eq (by omega), hf, he, hl]; rfl
    · rw [getD_set_ne e]; exact h.done j (by omega)
  · rw [getD_set_ne (by omega)]; exact h.rest j (by omega) h2
theorem PI.min {l : List Nd} {dep : List Int} {ch : Int → Int} {i : Nat} {f g : Int → Bool} {out : List Int} (h : PI l dep ch i f out) (hT : TF l dep) (hi : i < l.length) (hf : f i = true) (he : evB dep i = false) (hg : ∀ k, g k = (f k || decide (∃ b : Nat, b < (kid l i).length ∧ k_ l i b = k))) : PI l dep ch (i + 1) g out := by
  have hne : ∀ j : Nat, j ≤ i → ¬ ∃ b : Nat, b < (kid l i).length ∧ k_ l i b = j := fun j hj ⟨b, hb, e⟩ => by have := hT.kin i b hi hb; omega
  have hgj : ∀ j : Nat, j ≤ i → g j = f j := fun j hj => by rw [hg, decide_eq_false (hne j hj), Bool.or_false]
  refine ⟨by have := hgj 0 (by omega); simpa [h.r0] using this, fun a b ha hb => ?_, fun c hc' => ?_, h.len, fun j hj => ?_, fun j h1 h2 => h.rest j (by omega) h2⟩
  · rw [hgj a (by omega)]
    by_cases e : a = i
    · subst e
      rw [hg, decide_eq_true ⟨b, hb, rfl⟩, hf, he]
      simp
    · have hk1 : ¬ ∃ b' : Nat, b' < (kid l i).length ∧ k_ l i b' = k_ l a b := fun ⟨b', hb', e2⟩ => e (hT.inj i b' a b hi hb' (by omega) hb e2).1.symm
      rw [hg, decide_eq_false hk1, Bool.or_false]
      exact h.step a b (by omega) hb
  · rw [hg] at hc'
    simp only [Bool.or_eq_true, decide_eq_true_eq] at hc'
    rcases hc' with hc' | ⟨b, hb, e⟩
    · rcases h.only c hc' with e | ⟨a, b, ha, hb, e⟩
      · exact .inl e
      · exact .inr ⟨a, b, by omega, hb, e⟩
    · exact .inr ⟨i, b, by omega, hb, e⟩
  · rw [hgj j (by omega)]
    by_cases e : j = i
    · subst e
      rw [h.rest j (Nat.le_refl _) hi, if_neg (by simp [he])]
    · exact h.done j (by omega)
/-- Reached nodes are determined. -/
theorem PlanS.reach {l : List Nd} {dep : List Int} {ch : Int → Int} {f g : Int → Bool} {out out' : List Int} (hT : TF l dep) (h : PlanS l dep ch f out) (h' : PlanS l dep ch g out') : ∀ i : Nat, i < l.length → f i = g i := by
  intro i
  induction i using Nat.strongRecOn with
  | _ i ih =>
    intro hi
    by_cases e : i = 0
    · subst e
      have h1 := h.r0
      have h2 := h'.r0
      rw [show ((0 : Nat) : Int) = 0 from rfl, h1, h2]
    · obtain ⟨a, b, ha, hb, hk⟩ := hT.cov i (by omega) hi
      have hka := hT.kin a b ha hb
      have h1 := h.step a b ha hb
      have h2 := h'.step a b ha hb
      rw [hk] at h1 h2
      rw [h1, h2, ih a (by omega) ha]
theorem PlanS.uniq {l : List Nd} {dep : List Int} {ch : Int → Int} {f g : Int → Bool} {out out' : List Int} (hT : TF l dep) (h : PlanS l dep ch f out) (h' : PlanS l dep ch g out') : out = out' := by
  apply List.ext_getElem (by rw [h.len, h'.len])
  intro j h1 h2
  have hj : j < l.length := by rw [← h.len]; exact h1
  have e1 := h.done j hj
  have e2 := h'.done j hj
  rw [h.reach hT h' j hj] at e1
  rw [← e2] at e1
  simpa [List.getD_eq_getElem?_getD, h1, h2] using e1
end Go.Proofs.Ytdiljpnfochndaa.HP
/- How many plans: sums and products that stay small. -/
namespace Go.Proofs.Ytdiljpnfochndaa.HP
def prodL : List Int → Int
  | [] => 1
  | x :: r => x * prodL r
theorem prodL_snoc : ∀ (l : List Int) (z : Int), prodL (l ++ [z]) = prodL l * z
  | [], z => by simp [prodL]
  | x :: r, z => by simp only [List.cons_append, prodL]; rw [prodL_snoc r z, Int.mul_assoc]
theorem sumL_snoc : ∀ (l : List Int) (z : Int), sumL (l ++ [z]) = sumL l + z
  | [], z => by simp [sumL]
  | x :: r, z => by simp only [List.cons_append, sumL]; rw [sumL_snoc r z]; omega
def PLN (l : List Nd) (dep : List Int) (b : Int) (ps : List Int) (j : Int) : Int :=
  if leafB l j then (if b ≤ wor l j then 1 else 0) else if evB dep j then sumL ((kid l j).map (rd ps)) else prodL ((kid l j).map (rd ps))
structure PlsP (l : List Nd) (dep : List Int) (b : Int) (ps : List Int) : Prop where
  len : ps.length = l.length
  at_ : ∀ j : Nat, j < l.length → ps.getD j 0 = PLN l dep b ps j
theorem PLN_congr {l : List Nd} {dep : List Int} (h : TF l dep) {i : Nat} (hi : i < l.length) {b : Int} {vs us : List Int} (he : ∀ j : Nat, i < j → j < l.length → vs.getD j 0 = us.getD j 0) : PLN l dep b vs i = PLN l dep b us i := by
  unfold PLN
  rw [map_rd_congr h hi he]
theorem pls_set {l : List Nd} {dep : List Int} (h : TF l dep) {b : Int} {os : List Int} {q : Nat} (hq : q < l.length) (hol : os.length = l.length) {x : Int} (hx : x = PLN l dep b os q) (hval : ∀ j : Nat, q + 1 ≤ j → j < l.length → os.getD j 0 = PLN l dep b os j) :
    ∀ j : Nat, q ≤ j → j < l.length → (os.set q x).getD j 0 = PLN l dep b (os.set q x) j := by
  intro j h1 h2
  have hc : PLN l dep b (os.set q x) j = PLN l dep b os j := PLN_congr h h2 fun i hi hil => getD_set_ne (by omega)
  rw [hc]
  by_cases e : q = j
  · subst e; rw [getD_set_eq (by omega)]; exact hx
  · rw [getD_set_ne e]; exact hval j (by omega) h2
theorem PlsP.uniq {l : List Nd} {dep : List Int} (h : TF l dep) {b : Int} {vs us : List Int} (hv : PlsP l dep b vs) (hu : PlsP l dep b us) : vs = us := by
  have key : ∀ d j : Nat, l.length - j = d → j < l.length → vs.getD j 0 = us.getD j 0 := by
    intro d
    induction d using Nat.strongRecOn with
    | _ d ih =>
      intro j hd hj
      rw [hv.at_ j hj, hu.at_ j hj]
      exact PLN_congr h hj fun q hq hql => ih (l.length - q) (by omega) q rfl hql
  apply List.ext_getElem (by rw [hv.len, hu.len])
  intro j h1 h2
  have := key _ j rfl (by rw [← hv.len]; exact h1)
  simpa [List.getD_eq_getElem?_getD, h1, h2] using this
/-! ### Leaves below -/
def LN (l : List Nd) (es : List Ef) (j : Int) : Ef := if leafB l j then (1, [j]) else (kid l j).foldl (joinF es) (0, [])
theorem join_congr {es us : List Ef} : ∀ (cs : List Int) (a : Ef), (∀ c ∈ cs, ed es c = ed us c) → cs.foldl (joinF es) a = cs.foldl (joinF us) a
  | [], _, _ => rfl
  | c :: r, a, h => by
    have hj : joinF es a c = joinF us a c := by unfold joinF; rw [h c (by simp)]
    rw [List.foldl_cons, List.foldl_cons, hj]
    exact join_congr r _ fun x hx => h x (by simp [hx])
theorem LN_congr {l : List Nd} {dep : List Int} (h : TF l dep) {i : Nat} (hi : i < l.length) {es us : List Ef} (he : ∀ j : Nat, i < j → j < l.length → es.getD j (0, []) = us.getD j (0, [])) : LN l es i = LN l us i := by
  unfold LN
  rw [join_congr (es := es) (us := us) (kid l i) _ fun c hc => by
    obtain ⟨h1, h2⟩ := mem_kid h hi hc
    exact he c.toNat (by omega) (by omega)]
theorem efset_eq {dep : List Ef} {c : Nat} {x : Ef} (h : c < dep.length) : (dep.set c x).getD c (0, []) = x := by
  rw [List.getD_eq_getElem?_getD, List.getElem?_set_self h]; rfl
theorem efset_ne {dep : List Ef} {c d : Nat} {x : Ef} (h : c ≠ d) : (dep.set c x).getD d (0, []) = dep.getD d (0, []) := by
  rw [List.getD_eq_getElem?_getD, List.getElem?_set_ne h, ← List.getD_eq_getElem?_getD]
theorem leaves_ex {l : List Nd} {dep : List Int} (hT : TF l dep) : ∃ es : List Ef, ∀ j : Nat, j < l.length → es.getD j (0, []) = LN l es j := by
  have key : ∀ d q : Nat, l.length - q = d → q ≤ l.length → ∃ os : List Ef, os.length = l.length ∧ ∀ j : Nat, q ≤ j → j < l.length → os.getD j (0, []) = LN l os j := by
    intro d
    induction d with
    | zero => intro q hd hq; exact ⟨List.replicate l.length (0, []), by simp, fun j h1 h2 => by omega⟩
    | succ d ih =>
      intro q hd hq
      obtain ⟨os, h1, h2⟩ := ih (q + 1) (by omega) (by omega)
      refine ⟨os.set q (LN l os q), by simp [h1], fun j h3 h4 => ?_⟩
      have hc : LN l (os.set q (LN l os q)) j = LN l os j := LN_congr hT h4 fun i hi hil => efset_ne (by omega)
      rw [hc]
      by_cases e : q = j
      · subst e; rw [efset_eq (by omega)]
      · rw [efset_ne e]; exact h2 j (by omega) h4
  obtain ⟨os, h1, h2⟩ := key _ 0 rfl (Nat.zero_le _)
  exact ⟨os, fun j hj => h2 j (Nat.zero_le _) hj⟩
def lenS (es : List Ef) : List Int → Nat
  | [] => 0
  | c :: r => (ed es c).2.length + lenS es r
theorem join_lenS {es : List Ef} : ∀ (cs : List Int) (a : Ef), (cs.foldl (joinF es) a).2.length = a.2.length + lenS es cs
  | [], _ => rfl
  | c :: r, a => by
    rw [List.foldl_cons, join_lenS r]
    simp only [joinF, List.length_append, lenS]
    omega
theorem lenS_take {es : List Ef} : ∀ (cs : List Int) (t : Nat), lenS es (cs.take t) ≤ lenS es cs
  | [], t => by simp [lenS]
  | c :: r, 0 => by simp [lenS]
  | c :: r, t + 1 => by simp only [List.take_succ_cons, lenS]; have := lenS_take (es := es) r t; omega
theorem pow_ge (n : Nat) : (1 : Int) ≤ 2 ^ n := by
  have : (1 : Int) ≤ ((2 ^ n : Nat) : Int) := by have := Nat.one_le_two_pow (n := n); omega
  simpa using this
theorem mul_ge {A B : Int} (ha : 1 ≤ A) (hb : 1 ≤ B) : A + B ≤ A * B + 1 := by
  have h := Int.mul_nonneg (show (0 : Int) ≤ A - 1 by omega) (show (0 : Int) ≤ B - 1 by omega)
  rw [Int.sub_mul, Int.mul_sub, Int.mul_sub] at h
  omega
theorem sum_pow {es : List Ef} {x : Int → Int} : ∀ (cs : List Int), (∀ c ∈ cs, 0 ≤ x c ∧ x c + 1 ≤ 2 ^ (ed es c).2.length) → 0 ≤ sumL (cs.map x) ∧ sumL (cs.map x) + 1 ≤ 2 ^ lenS es cs
  | [], _ => by simp [sumL, lenS]
  | c :: r, h => by
    have h1 := h c (by simp)
    have h2 := sum_pow r fun y hy => h y (by simp [hy])
    have h3 := mul_ge (pow_ge (ed es c).2.length) (pow_ge (lenS es r))
    simp only [List.map_cons, sumL, lenS, Int.pow_add]
    omega
theorem prod_pow {es : List Ef} {x : Int → Int} : ∀ (cs : List Int), cs ≠ [] → (∀ c ∈ cs, 0 ≤ x c ∧ x c + 1 ≤ 2 ^ (ed es c).2.length) → 0 ≤ prodL (cs.map x) ∧ prodL (cs.map x) + 1 ≤ 2 ^ lenS es cs
  | [], h, _ => absurd rfl h
  | [c], _, h => by
    have h1 := h c (by simp)
    simp only [List.map_cons, List.map_nil, prodL, lenS, Int.mul_one, Nat.add_zero]
    exact h1
  | c :: d :: r, _, h => by
    have h1 := h c (by simp)
    have h2 := prod_pow (d :: r) (by simp) fun y hy => h y (by simp [List.mem_cons.1 hy])
    generalize hM : prodL ((d :: r).map x) = M at *
    generalize hB : lenS es (d :: r) = B at *
    have e1 : prodL ((c :: d :: r).map x) = x c * M := by rw [← hM]; rfl
    have e2 : lenS es (c :: d :: r) = (ed es c).2.length + B := by rw [← hB]; rfl
    rw [e1, e2, Int.pow_add]
    have p1 := pow_ge (ed es c).2.length
    have p2 := pow_ge B
    have h3 := mul_ge p1 p2
    generalize (2 : Int) ^ (ed es c).2.length = A at *
    generalize (2 : Int) ^ B = C at *
    have h4 : x c * M ≤ (A - 1) * (C - 1) := Int.mul_le_mul (by omega) (by omega) h2.1 (by omega)
    rw [Int.sub_mul, Int.mul_sub, Int.mul_sub] at h4
    exact ⟨Int.mul_nonneg h1.1 h2.1, by omega⟩
/-- Numbers of plans are small, and so are what they are summed up and multiplied from. -/
theorem pls_small {l : List Nd} {dep : List Int} (hT : TF l dep) {b : Int} {q : Nat} {ps : List Int} (hval : ∀ j : Nat, q ≤ j → j < l.length → ps.getD j 0 = PLN l dep b ps j) {es : List Ef} (hes : ∀ j : Nat, j < l.length → es.getD j (0, []) = LN l es j) :
    ∀ j : Nat, j < l.length → q ≤ j → GoodE l j (es.getD j (0, [])).2 ∧ 0 ≤ ps.getD j 0 ∧ ps.getD j 0 + 1 ≤ 2 ^ (es.getD j (0, [])).2.length := by
  refine tree_ind hT (Q := fun j => q ≤ j → GoodE l j (es.getD j (0, [])).2 ∧ 0 ≤ ps.getD j 0 ∧ ps.getD j 0 + 1 ≤ 2 ^ (es.getD j (0, [])).2.length) fun j hj hk hq => ?_
  have kD : ∀ c ∈ kid l j, GoodE l c (ed es c).2 ∧ 0 ≤ rd ps c ∧ rd ps c + 1 ≤ 2 ^ (ed es c).2.length := fun c hc => by
    obtain ⟨h1, _⟩ := mem_kid hT hj hc
    obtain ⟨i, rfl, hi, h⟩ := hk c hc
    exact h (by omega)
  rw [hes j hj, hval j hq hj]
  unfold LN PLN
  by_cases hl : leafB l j = true
  · rw [if_pos hl, if_pos hl]
    refine ⟨⟨fun x hx => ?_, by simp⟩, by split <;> omega, by simp; split <;> omega⟩
    simp at hx
    subst hx
    exact ⟨by omega, by omega, hl, 0, rfl⟩
  · have hne := leaf_ne hl
    have hg := (good_join hT hj (fun c hc => (kD c hc).1) (kid l j).length (Nat.le_refl _)).1
    rw [List.take_length] at hg
    rw [if_neg hl, if_neg hl]
    refine ⟨hg, ?_⟩
    rw [join_lenS]
    simp only [List.length_nil, Nat.zero_add]
    split
    · exact sum_pow _ fun c hc => (kD c hc).2
    · exact prod_pow _ hne fun c hc => (kD c hc).2
theorem pow60 {n : Nat} (h : n ≤ 60) : (2 : Int) ^ n ≤ 1152921504606846976 := by
  have := Nat.pow_le_pow_right (n := 2) (by omega) h
  have h2 : ((2 ^ n : Nat) : Int) ≤ ((2 ^ 60 : Nat) : Int) := by omega
  simpa using h2
/-- On the way at node p. -/
theorem pls_part {l : List Nd} {dep : List Int} (hT : TF l dep) {b : Int} {p : Nat} (hp : p < l.length) {ps : List Int} (hval : ∀ j : Nat, p + 1 ≤ j → j < l.length → ps.getD j 0 = PLN l dep b ps j) :
    (∀ c ∈ kid l p, 0 ≤ rd ps c ∧ rd ps c ≤ 1152921504606846976) ∧ ∀ t, 0 ≤ sumL (((kid l p).map (rd ps)).take t) ∧ sumL (((kid l p).map (rd ps)).take t) ≤ 1152921504606846976 ∧ 0 ≤ prodL (((kid l p).map (rd ps)).take t) ∧ prodL (((kid l p).map (rd ps)).take t) ≤ 1152921504606846976 := by
  obtain ⟨es, hes⟩ := leaves_ex hT
  have hs := pls_small hT hval hes
  have kD : ∀ c ∈ kid l p, GoodE l c (ed es c).2 ∧ 0 ≤ rd ps c ∧ rd ps c + 1 ≤ 2 ^ (ed es c).2.length := fun c hc => by
    obtain ⟨h1, h2⟩ := mem_kid hT hp hc
    have := hs c.toNat (by omega) (by omega)
    rw [show ((c.toNat : Nat) : Int) = c by omega] at this
    exact this
  have h60 := hT.n60
  have hg := (good_join hT hp (fun c hc => (kD c hc).1) (kid l p).length (Nat.le_refl _)).1.len
  rw [List.take_length, join_lenS] at hg
  simp only [List.length_nil, Nat.zero_add] at hg
  refine ⟨fun c hc => ⟨(kD c hc).2.1, ?_⟩, fun t => ?_⟩
  · have := (kD c hc).1.len
    have := pow60 (n := (ed es c).2.length) (by omega)
    have := (kD c hc).2.2
    omega
  · have hl := lenS_take (es := es) (kid l p) t
    have hpw := pow60 (n := lenS es ((kid l p).take t)) (by omega)
    have hk : ∀ c ∈ (kid l p).take t, 0 ≤ rd ps c ∧ rd ps c + 1 ≤ 2 ^ (ed es c).2.length := fun c hc => (kD c (List.mem_of_mem_take hc)).2
    rw [← List.map_take]
    have h1 := sum_pow _ hk
    refine ⟨h1.1, by omega, ?_⟩
    by_cases hne : (kid l p).take t = []
    · rw [hne]; simp [prodL]
    · have h2 := prod_pow _ hne hk
      exact ⟨h2.1, by omega⟩
end Go.Proofs.Ytdiljpnfochndaa.HP
/- Segments that are permuted. -/
namespace Go.Proofs.Ytdiljpnfochndaa.HP
/-- os' is os with the places from a to b permuted. -/
structure SegP (a b : Nat) (os os' : List Int) : Prop where
  len : os'.length = os.length
  out : ∀ p : Nat, p < a ∨ b ≤ p → os'.getD p 0 = os.getD p 0
  mem : ∀ p : Nat, a ≤ p → p < b → ∃ q : Nat, a ≤ q ∧ q < b ∧ os'.getD p 0 = os.getD q 0
  perm : os'.Perm os
theorem SegP.refl (a b : Nat) (os : List Int) : SegP a b os os := ⟨rfl, fun _ _ => rfl, fun p h1 h2 => ⟨p, h1, h2, rfl⟩, List.Perm.refl _⟩
theorem SegP.trans {a b : Nat} {x y z : List Int} (h : SegP a b x y) (k : SegP a b y z) : SegP a b x z :=
  ⟨k.len.trans h.len, fun p hp => (k.out p hp).trans (h.out p hp), fun p h1 h2 => by
    obtain ⟨q, q1, q2, e⟩ := k.mem p h1 h2
    obtain ⟨r, r1, r2, e'⟩ := h.mem q q1 q2
    exact ⟨r, r1, r2, e.trans e'⟩, k.perm.trans h.perm⟩
theorem SegP.wide {a b a' b' : Nat} {x y : List Int} (h : SegP a b x y) (ha : a' ≤ a) (hb : b ≤ b') : SegP a' b' x y :=
  ⟨h.len, fun p hp => h.out p (by omega), fun p h1 h2 => by
    by_cases e : a ≤ p ∧ p < b
    · obtain ⟨q, q1, q2, e'⟩ := h.mem p e.1 e.2
      exact ⟨q, by omega, by omega, e'⟩
    · exact ⟨p, h1, h2, h.out p (by omega)⟩, h.perm⟩
theorem getD_set' {os : List Int} {i p : Nat} {x : Int} (hi : i < os.length) : (os.set i x).getD p 0 = if p = i then x else os.getD p 0 := by
  by_cases e : p = i
  · subst e; rw [if_pos rfl]; simp [List.getD_eq_getElem?_getD, hi]
  · rw [if_neg e, List.getD_eq_getElem?_getD, List.getElem?_set_ne (fun h => e h.symm), ← List.getD_eq_getElem?_getD]
/-- Two places exchanged. -/
def swp (os : List Int) (i j : Nat) : List Int := (os.set i (os.getD j 0)).set j (os.getD i 0)
theorem swp_getD {os : List Int} {i j p : Nat} (hi : i < os.length) (hj : j < os.length) : (swp os i j).getD p 0 = if p = j then os.getD i 0 else if p = i then os.getD j 0 else os.getD p 0 := by
  unfold swp
  rw [getD_set' (by simpa using hj), getD_set' hi]
theorem swp_len (os : List Int) (i j : Nat) : (swp os i j).length = os.length := by simp [swp]
theorem set_perm : ∀ (os : List Int) (i : Nat) (x : Int), i < os.length → ((os.getD i 0) :: os.set i x).Perm (x :: os)
  | [], i, x, h => by simp at h
  | a :: r, 0, x, _ => by simpa using List.Perm.swap x a r
  | a :: r, i + 1, x, h => by
    have ih := set_perm r i x (by simpa using h)
    simp only [List.set_cons_succ, List.getD_cons_succ]
    exact (List.Perm.swap a _ _).trans ((ih.cons a).trans (List.Perm.swap x a r))
theorem swp_perm {os : List Int} {i j : Nat} (hi : i < os.length) (hj : j < os.length) : (swp os i j).Perm os := by
  have h1 := set_perm os i (os.getD j 0) hi
  have h2 := set_perm (os.set i (os.getD j 0)) j (os.getD i 0) (by simpa using hj)
  have e : (os.set i (os.getD j 0)).getD j 0 = os.getD j 0 := by
    rw [getD_set' hi]
    split
    · rfl
    · rfl
  rw [e] at h2
  have h3 : (os.getD j 0 :: swp os i j).Perm (os.getD j 0 :: os) := h2.trans h1
  exact List.Perm.cons_inv h3
theorem swp_seg {os : List Int} {a b i j : Nat} (hi : i < os.length) (hj : j < os.length) (hai : a ≤ i) (hib : i < b) (haj : a ≤ j) (hjb : j < b) : SegP a b os (swp os i j) :=
  ⟨swp_len _ _ _, fun p hp => by rw [swp_getD hi hj, if_neg (by omega), if_neg (by omega)], fun p h1 h2 => by
    rw [swp_getD hi hj]
    by_cases e : p = j
    · rw [if_pos e]; exact ⟨i, hai, hib, rfl⟩
    · rw [if_neg e]
      by_cases e2 : p = i
      · rw [if_pos e2]; exact ⟨j, haj, hjb, rfl⟩
      · rw [if_neg e2]; exact ⟨p, h1, h2, rfl⟩, swp_perm hi hj⟩
/-- K-sorted from a to b. -/
def SortK (K : Int → Int) (os : List Int) (a b : Nat) : Prop := ∀ p q : Nat, a ≤ p → p < q → q < b → K (os.getD p 0) < K (os.getD q 0)
theorem SortK.same {K : Int → Int} {x y : List Int} {a b : Nat} (h : SortK K x a b) (e : ∀ p : Nat, a ≤ p → p < b → y.getD p 0 = x.getD p 0) : SortK K y a b := fun p q h1 h2 h3 => by
  rw [e p h1 (by omega), e q (by omega) h3]; exact h p q h1 h2 h3
end Go.Proofs.Ytdiljpnfochndaa.HP
