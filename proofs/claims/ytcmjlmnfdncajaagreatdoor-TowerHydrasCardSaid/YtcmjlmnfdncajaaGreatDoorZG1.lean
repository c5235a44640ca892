/- A part of the walk: what this seat's statements share. -/
import Derived.Calls
import Derived.Still
import Derived.StillTail
import Derived.Deep.Quiet
import Derived.Below
import Derived.Tactics
import Derived.KernelRfl
import Derived.RangeFuncLeaves
import Derived.RangeFuncMany
import Derived.Laws.AppendOwn
import Derived.Laws.OwnMore
import Derived.Laws.MakeOwn
import Derived.Laws.Slices
import Derived.Test.YtcmjlmnfdncajaaGreatDoorProg
set_option linter.unusedVariables false
set_option linter.unusedSimpArgs false
set_option linter.unusedSectionVars false
/- The walk's own logic: states are short lists of what is known of the slots; each rule takes one operation. -/
namespace Go.Proofs.YtcmjlmnfdncajaaGreatDoor.VW
open Go

abbrev E := List (Nat × Value)
def look : E → Nat → Option Value
  | [], _ => none
  | (d, v) :: r, t => bif Nat.beq d t then some v else look r t
def ev (ρ : E) : Operand → Option Value
  | .tmp t => look ρ t
  | .const v => some v
  | .global g => some (.pointer (some ⟨g, 0, none⟩))
  | .func f => some (.func (.func f) #[] #[])
def put (d : Option Tmp) (v : Value) (ρ : E) : E := match d with | some d => (d, v) :: ρ | none => ρ
structure Rep (n : Nat) (a : Act) (ρ : E) : Prop where
  size : a.tmps.size = n
  slot : ∀ t v, look ρ t = some v → a.tmps.getD t undef = v
theorem Rep.ev {n : Nat} {a : Act} {ρ : E} (h : Rep n a ρ) {x : Operand} {v : Value} (hx : VW.ev ρ x = some v) : a.eval x = v := by
  cases x with
  | tmp t => exact h.slot t v hx
  | const u => exact Option.some.inj hx
  | global g => exact Option.some.inj hx
  | func f => exact Option.some.inj hx
def dOk (n : Nat) : Option Tmp → Bool
  | some d => Nat.blt d n
  | none => true
theorem Rep.put {n : Nat} {a : Act} {ρ : E} (h : Rep n a ρ) {d : Option Tmp} (hd : dOk n d = true) (v : Value) : Rep n (a.put d v) (put d v ρ) := by
  cases d with
  | none => exact h
  | some d =>
    have hd' : d < n := by simpa [dOk] using hd
    refine ⟨by simp [Act.put, h.size], fun t u hu => ?_⟩
    simp only [VW.put, look] at hu
    by_cases e : d = t
    · subst e
      simp at hu
      subst hu
      simp [Act.put, Array.getD_eq_getD_getElem?, h.size, hd']
    · have : Nat.beq d t = false := by
        cases hb : Nat.beq d t with
        | false => rfl
        | true => exact absurd (Nat.eq_of_beq_eq_true hb) e
      rw [this] at hu
      have := h.slot t u hu
      simp only [Act.put, Array.getD_eq_getD_getElem?] at this ⊢
      rw [Array.getElem?_setIfInBounds_ne (by omega)]
      exact this
def Sub : E → E → Prop
  | [], _ => True
  | (d, v) :: r, ρ => look ρ d = some v ∧ Sub r ρ
theorem Sub.look {ρ' ρ : E} (h : Sub ρ' ρ) {t : Nat} {v : Value} (hl : VW.look ρ' t = some v) : VW.look ρ t = some v := by
  induction ρ' with
  | nil => simp [VW.look] at hl
  | cons p r ih =>
    obtain ⟨d, u⟩ := p
    simp only [VW.look] at hl
    cases hb : Nat.beq d t with
    | true =>
      rw [hb] at hl
      have := Nat.eq_of_beq_eq_true hb
      subst this
      simp at hl
      subst hl
      exact h.1
    | false => rw [hb] at hl; exact ih h.2 hl
theorem Rep.sub {n : Nat} {a : Act} {ρ ρ' : E} (h : Rep n a ρ) (hs : Sub ρ' ρ) : Rep n a ρ' := ⟨h.size, fun t v hl => h.slot t v (hs.look hl)⟩

def inB (n : Nat) : Code → Bool
  | .region _ ops _ => ops.toList.all fun o => dOk n o.dst
  | .seq a b => inB n a && inB n b
  | .cond _ a b => inB n a && inB n b
  | .block _ c => inB n c
  | .loop c => inB n c
  | .scope c => inB n c
  | _ => true

/-- What is still to be done: code; the end of a block; the head of a loop. -/
inductive It where
  | code (c : Code)
  | blk (id : Nat)
  | lp (J : E → World → Prop)
abbrev Post := Exit → E → World → Prop
/-- Behind ranges over functions a 'ret' finds marks among the deferred calls, each at a block with none. -/
inductive Marks : List Deferred → List Deferred → World → World → Prop
  | nil (ds : List Deferred) (w : World) : Marks ds ds w w
  | cons {D : Nat} {d ds : List Deferred} {w w' : World} (h : w.heap[D]? = some (.deferred (some []))) (m : Marks d ds (w.putObj D (.deferred none)) w') : Marks ({ target := .collected D, args := #[] } :: d) ds w w'
theorem Marks.trans {a b c : List Deferred} {w w' w'' : World} (h : Marks a b w w') : Marks b c w' w'' → Marks a c w w'' := by
  induction h with
  | nil => exact id
  | cons h _ ih => exact fun k => .cons h (ih k)
def LiftD (ds : List Deferred) (Q : Post) : Exit → List Deferred → E → World → Prop
  | .ret, d, ρ, w => ∃ w', Marks d ds w w' ∧ Q .ret ρ w'
  | e, d, ρ, w => d = ds ∧ Q e ρ w
theorem LiftD.mk {ds d : List Deferred} {Q : Post} {e : Exit} {ρ : E} {w : World} (hd : d = ds) (h : Q e ρ w) : LiftD ds Q e d ρ w := by
  subst hd
  cases e <;> first | exact ⟨rfl, h⟩ | exact ⟨_, .nil _ _, h⟩
theorem LiftD.mono {ds d : List Deferred} {Q Q' : Post} {e : Exit} {ρ : E} {w : World} (hq : ∀ w, Q e ρ w → Q' e ρ w) (h : LiftD ds Q e d ρ w) : LiftD ds Q' e d ρ w := by
  cases e with
  | ret =>
    obtain ⟨w', h1, h2⟩ := h
    exact ⟨w', h1, hq _ h2⟩
  | _ => exact ⟨h.1, hq _ h.2⟩
def lift (n : Nat) (ds : List Deferred) (Q : Post) (e : Exit) (a : Act) (w : World) : Prop := ∃ ρ, Rep n a ρ ∧ LiftD ds Q e a.defers ρ w
def Wc (P : Program) (n : Nat) (ds : List Deferred) (c : Code) (Q : Post) (ρ : E) (w : World) : Prop :=
  inB n c = true → ∀ a, Rep n a ρ → a.defers = ds → c.wp P (lift n ds Q) a w
def Qof (P : Program) (n : Nat) (ds : List Deferred) (Φ : Post) : List It → Post
  | [] => Φ
  | .code c :: k => fun e ρ w => match e with
    | .normal => Wc P n ds c (Qof P n ds Φ k) ρ w
    | e => Qof P n ds Φ k e ρ w
  | .blk id :: k => fun e ρ w => match e with
    | .exit i => if i = id then Qof P n ds Φ k .normal ρ w else Qof P n ds Φ k (.exit i) ρ w
    | e => Qof P n ds Φ k e ρ w
  | .lp J :: k => fun e ρ w => match e with
    | .normal => J ρ w
    | e => Qof P n ds Φ k e ρ w
def W (P : Program) (n : Nat) (ds : List Deferred) (k : List It) (Φ : Post) (ρ : E) (w : World) : Prop := Qof P n ds Φ k .normal ρ w
section
variable {P : Program} {n : Nat} {ds : List Deferred} {Φ : Post} {k : List It} {ρ : E} {w : World}
theorem Wc.mono {c : Code} {Q Q' : Post} (hq : ∀ e ρ w, Q e ρ w → Q' e ρ w) (h : Wc P n ds c Q ρ w) : Wc P n ds c Q' ρ w :=
  fun hi a hr hd => wp_mono (h hi a hr hd) fun e _ w ⟨ρ, r, d⟩ => ⟨ρ, r, d.mono (fun w => hq e ρ w)⟩
theorem Qof.ret (h : Φ .ret ρ w) : Qof P n ds Φ k .ret ρ w := by
  induction k with
  | nil => exact h
  | cons x r ih => cases x <;> exact ih
theorem Qof.pan {ch : List PanicEntry} (h : Φ (.panic ch) ρ w) : Qof P n ds Φ k (.panic ch) ρ w := by
  induction k with
  | nil => exact h
  | cons x r ih => cases x <;> exact ih
def popTo (id : Nat) : List It → Option (List It)
  | [] => none
  | .blk i :: k => bif Nat.beq id i then some k else popTo id k
  | .code _ :: k => popTo id k
  | .lp _ :: k => popTo id k
theorem Qof.exit {id : Nat} {k' : List It} (hp : popTo id k = some k') (hw : W P n ds k' Φ ρ w) : Qof P n ds Φ k (.exit id) ρ w := by
  induction k with
  | nil => simp [popTo] at hp
  | cons x r ih =>
    cases x with
    | code c => exact ih hp
    | lp J => exact ih hp
    | blk i =>
      simp only [popTo] at hp
      show if id = i then _ else _
      cases hb : Nat.beq id i with
      | true =>
        rw [hb] at hp
        rw [if_pos (Nat.eq_of_beq_eq_true hb)]
        simp at hp
        subst hp
        exact hw
      | false =>
        rw [hb] at hp
        rw [if_neg (Nat.ne_of_beq_eq_false hb)]
        exact ih hp
theorem W.seq {a b : Code} (h : W P n ds (.code a :: .code b :: k) Φ ρ w) : W P n ds (.code (.seq a b) :: k) Φ ρ w := by
  intro hi a' hr hd
  simp only [inB, Bool.and_eq_true] at hi
  refine wp_seq (wp_mono (h hi.1 a' hr hd) fun e a w hl => ?_)
  cases e with
  | normal =>
    obtain ⟨ρ', hr', hd', hq⟩ := hl
    exact hq hi.2 a hr' hd'
  | _ => exact hl
theorem W.skip (h : W P n ds k Φ ρ w) : W P n ds (.code .skip :: k) Φ ρ w := fun _ _ hr hd => wp_skip ⟨ρ, hr, LiftD.mk hd h⟩
theorem W.ret (h : Φ .ret ρ w) : W P n ds (.code .ret :: k) Φ ρ w := fun _ _ hr hd => wp_ret ⟨ρ, hr, LiftD.mk hd (Qof.ret h)⟩
theorem W.exit {id : Nat} {k' : List It} (hp : popTo id k = some k') (h : W P n ds k' Φ ρ w) : W P n ds (.code (.exit id) :: k) Φ ρ w :=
  fun _ _ hr hd => wp_exit ⟨ρ, hr, LiftD.mk hd (Qof.exit hp h)⟩
theorem W.endb {id : Nat} (h : W P n ds k Φ ρ w) : W P n ds (.blk id :: k) Φ ρ w := h
theorem W.endl {J : E → World → Prop} (h : J ρ w) : W P n ds (.lp J :: k) Φ ρ w := h
theorem W.fin (h : Φ .normal ρ w) : W P n ds [] Φ ρ w := h
theorem W.block {id : Nat} {c : Code} (h : W P n ds (.code c :: .blk id :: k) Φ ρ w) : W P n ds (.code (.block id c) :: k) Φ ρ w := by
  intro hi a hr hd
  refine wp_block (wp_mono (h hi a hr hd) fun e a w hl => ?_)
  obtain ⟨ρ', hr', hl⟩ := hl
  cases e with
  | exit i =>
    obtain ⟨hd', hq⟩ := hl
    have hq' : if i = id then Qof P n ds Φ k .normal ρ' w else Qof P n ds Φ k (.exit i) ρ' w := hq
    show if i = id then _ else _
    split
    · rename_i e; rw [if_pos e] at hq'; exact ⟨ρ', hr', LiftD.mk hd' hq'⟩
    · rename_i e; rw [if_neg e] at hq'; exact ⟨ρ', hr', LiftD.mk hd' hq'⟩
  | _ => exact ⟨ρ', hr', hl⟩
theorem W.cond {c : Operand} {x y : Code} {t : Bool} (hc : ev ρ c = some (.bool t)) (ht : t = true → W P n ds (.code x :: k) Φ ρ w) (hf : t = false → W P n ds (.code y :: k) Φ ρ w) :
    W P n ds (.code (.cond c x y) :: k) Φ ρ w := by
  intro hi a hr hd
  simp only [inB, Bool.and_eq_true] at hi
  exact wp_cond_split (hr.ev hc) (fun e => ht e hi.1 a hr hd) (fun e => hf e hi.2 a hr hd)
/-- A loop: 'I m' holds at its head; each round comes back with a smaller m. -/
theorem W.loop {c : Code} (I : Nat → E → World → Prop) (h0 : ∃ m ρ0, I m ρ0 w ∧ Sub ρ0 ρ)
    (round : ∀ m ρ w, I m ρ w → W P n ds (.code c :: .lp (fun ρ1 w1 => ∃ m2 ρ2, (I m2 ρ2 w1 ∧ m2 < m) ∧ Sub ρ2 ρ1) :: k) Φ ρ w) :
    W P n ds (.code (.loop c) :: k) Φ ρ w := by
  intro hi a hr hd
  obtain ⟨m, ρ0, h0, hs⟩ := h0
  have key : ∀ m a w, (∃ ρ, Rep n a ρ ∧ a.defers = ds ∧ I m ρ w) → (Code.loop c).wp P (lift n ds (Qof P n ds Φ k)) a w := by
    intro m a w ha
    refine wp_loop (P := P) (fun a w => ∃ m ρ, Rep n a ρ ∧ a.defers = ds ∧ I m ρ w) (fun a w => Classical.epsilon fun m => (∃ ρ, Rep n a ρ ∧ a.defers = ds ∧ I m ρ w) ∧ ∀ m', (∃ ρ, Rep n a ρ ∧ a.defers = ds ∧ I m' ρ w) → m ≤ m') ⟨m, ha⟩ ?_
    rintro a w ⟨m1, hm1⟩
    have hmin : ∀ a w, (∃ m, ∃ ρ, Rep n a ρ ∧ a.defers = ds ∧ I m ρ w) → (fun m => (∃ ρ, Rep n a ρ ∧ a.defers = ds ∧ I m ρ w) ∧ ∀ m', (∃ ρ, Rep n a ρ ∧ a.defers = ds ∧ I m' ρ w) → m ≤ m') (Classical.epsilon fun m => (∃ ρ, Rep n a ρ ∧ a.defers = ds ∧ I m ρ w) ∧ ∀ m', (∃ ρ, Rep n a ρ ∧ a.defers = ds ∧ I m' ρ w) → m ≤ m') := by
      intro a w hex
      refine Classical.epsilon_spec (p := fun m => (∃ ρ, Rep n a ρ ∧ a.defers = ds ∧ I m ρ w) ∧ ∀ m', (∃ ρ, Rep n a ρ ∧ a.defers = ds ∧ I m' ρ w) → m ≤ m') ?_
      obtain ⟨m, hm⟩ := hex
      induction m using Nat.strongRecOn with
      | _ m ih =>
        by_cases hlt : ∃ m' < m, ∃ ρ, Rep n a ρ ∧ a.defers = ds ∧ I m' ρ w
        · obtain ⟨m', h1, h2⟩ := hlt
          exact ih m' h1 h2
        · refine ⟨m, hm, fun m' h' => ?_⟩
          by_cases h'' : m ≤ m'
          · exact h''
          · exact absurd ⟨m', by omega, h'⟩ hlt
    obtain ⟨⟨ρ1, hr1, hd1, hI1⟩, hle⟩ := hmin a w ⟨m1, hm1⟩
    refine wp_mono (round _ ρ1 w hI1 hi a hr1 hd1) fun e a2 w2 hl => ?_
    obtain ⟨ρ2, hr2, hl⟩ := hl
    cases e with
    | normal =>
      obtain ⟨hd2, hq⟩ := hl
      obtain ⟨m3, ρ3, ⟨hI3, hlt⟩, hs3⟩ : ∃ m2 ρ2', (I m2 ρ2' w2 ∧ m2 < _) ∧ Sub ρ2' ρ2 := hq
      have hex : ∃ ρ, Rep n a2 ρ ∧ a2.defers = ds ∧ I m3 ρ w2 := ⟨ρ3, hr2.sub hs3, hd2, hI3⟩
      exact ⟨⟨m3, hex⟩, Nat.lt_of_le_of_lt ((hmin a2 w2 ⟨m3, hex⟩).2 m3 hex) hlt⟩
    | _ => exact ⟨ρ2, hr2, hl⟩
  exact key m a w ⟨ρ0, hr.sub hs, hd, h0⟩
theorem W.sub {ρ' : E} (hs : Sub ρ' ρ) (h : W P n ds (k) Φ ρ' w) (hk : ∃ c k', k = .code c :: k') : W P n ds k Φ ρ w := by
  obtain ⟨c, k', rfl⟩ := hk
  exact fun hi a hr hd => h hi a (hr.sub hs) hd

/-! ### Regions -/
/-- md = none: in the text's order. md = some tl: operations that turn nothing, whose order is drawn; behind them tl. -/
def Core (md : Option (List Oper)) (P : Program) (all : Array Oper) (Q : Exit → Act → World → Prop) (l : List Oper) (a : Act) (w : World) : Prop := match md with
  | none => wpList P all Q l a w
  | some tl => wpStill P all w (fun a => wpList P all Q tl a w) l a
def Ops (md : Option (List Oper)) (P : Program) (n : Nat) (ds : List Deferred) (all : Array Oper) (k : List It) (Φ : Post) (l : List Oper) (ρ : E) (w : World) : Prop :=
  (l.all fun o => dOk n o.dst) = true → ∀ a, Rep n a ρ → a.defers = ds → Core md P all (lift n ds (Qof P n ds Φ k)) l a w
variable {all : Array Oper} {l : List Oper} {md : Option (List Oper)}
theorem W.region {id : Nat} (h : Ops none P n ds l.toArray k Φ l ρ w) : W P n ds (.code (.region id l.toArray false) :: k) Φ ρ w :=
  fun hi a hr hd => wp_region_lit (h (by simpa [inB] using hi) a hr hd)
theorem W.still {id : Nat} (hm : P.follows .mixedOrders = true) (hB : Region.lexB .any l.toArray = true)
    (h : Ops (some []) P n ds l.toArray k Φ l ρ w.drew) : W P n ds (.code (.region id l.toArray true) :: k) Φ ρ w :=
  fun hi a hr hd => wp_region_still_lit hm hB (h (by simpa [inB] using hi) a hr hd)
theorem W.tail {id : Nat} (m : Nat) (hm : P.follows .mixedOrders = true) (hB : Region.lexTailB .any l.toArray m = true)
    (h : Ops (some (l.drop m)) P n ds l.toArray k Φ (l.take m) ρ w.drew) : W P n ds (.code (.region id l.toArray true) :: k) Φ ρ w := by
  intro hi a hr hd
  refine wp_region_still_tail m hm hB (h ?_ a hr hd)
  have h1 : (l.all fun o => dOk n o.dst) = true := by simpa [inB] using hi
  rw [List.all_eq_true] at h1 ⊢
  exact fun o ho => h1 o (List.mem_of_mem_take ho)
theorem Ops.nil (h : W P n ds k Φ ρ w) : Ops none P n ds all k Φ [] ρ w :=
  fun _ _ hr hd => (⟨ρ, hr, LiftD.mk hd h⟩ : lift n ds (Qof P n ds Φ k) .normal _ w)
theorem Ops.nilS {tl : List Oper} (hi : (tl.all fun o => dOk n o.dst) = true) (h : Ops none P n ds all k Φ tl ρ w) : Ops (some tl) P n ds all k Φ [] ρ w :=
  fun _ a hr hd => (h hi a hr hd : Core none P all (lift n ds (Qof P n ds Φ k)) tl a w)
theorem Ops.sub {ρ' : E} (hs : Sub ρ' ρ) (h : Ops md P n ds all k Φ l ρ' w) : Ops md P n ds all k Φ l ρ w := fun hi a hr hd => h hi a (hr.sub hs) hd
/-- One operation that gives a value. -/
theorem Ops.valS {o : Oper} {v : Value} {d : Nat} (hd : o.dst = some d) (hg : o.guard = none) (hr : ∀ a, Rep n a ρ → (execOp a.eval o).run P w = .ok (.value v) w)
    (h : Ops md P n ds all k Φ l ((d, v) :: ρ) w) : Ops md P n ds all k Φ (o :: l) ρ w := by
  intro hi a ha hds
  simp only [List.all_cons, Bool.and_eq_true] at hi
  have h' := h hi.2 (a.put o.dst v) (by have := ha.put hi.1 v; rw [hd] at this ⊢; exact this) (by rw [hd]; exact hds)
  cases md with
  | none =>
    refine wpList_plain hg fun K hK => ?_
    unfold Oper.wp
    rw [hr a ha]
    exact hK _ _ h'
  | some tl =>
    refine wpStill_step fun K hK => ?_
    rw [if_pos (by simp [Region.wanted, hg])]
    unfold Oper.still
    rw [hr a ha]
    exact ⟨rfl, hK _ h'⟩
theorem Ops.val {o : Oper} {v : Value} {w' : World} {d : Nat} (hd : o.dst = some d) (hg : o.guard = none) (hr : ∀ a, Rep n a ρ → (execOp a.eval o).run P w = .ok (.value v) w')
    (h : Ops none P n ds all k Φ l ((d, v) :: ρ) w') : Ops none P n ds all k Φ (o :: l) ρ w := by
  intro hi a ha hds
  simp only [List.all_cons, Bool.and_eq_true] at hi
  refine wpList_plain hg fun K hK => ?_
  unfold Oper.wp
  rw [hr a ha]
  exact hK _ _ (h hi.2 _ (by have := ha.put hi.1 v; rw [hd] at this ⊢; exact this) (by rw [hd]; exact hds))
theorem Ops.unit {o : Oper} {w' : World} (hg : o.guard = none) (hdst : o.dst = none) (hr : ∀ a, Rep n a ρ → (execOp a.eval o).run P w = .ok .skip w')
    (h : Ops none P n ds all k Φ l ρ w') : Ops none P n ds all k Φ (o :: l) ρ w := by
  intro hi a ha hd
  simp only [List.all_cons, Bool.and_eq_true] at hi
  refine wpList_plain hg fun K hK => ?_
  unfold Oper.wp
  rw [hr a ha]
  exact hK _ _ (by rw [hdst]; exact h hi.2 _ ha hd)
theorem Ops.enter {o : Oper} {d : Option Tmp} {f : FuncId} {args : Array Value} {R : Ending → World → Prop} (hg : o.guard = none) (hdst : o.dst = d) (hr : ∀ a, Rep n a ρ → (execOp a.eval o).run P w = .ok (.enter f args) w)
    (hc : Calls P f args w R) (h : ∀ e w', R e w' → ∃ v, e = .returned v ∧ Ops none P n ds all k Φ l (put d v ρ) w') : Ops none P n ds all k Φ (o :: l) ρ w := by
  subst hdst
  intro hi a ha hd
  simp only [List.all_cons, Bool.and_eq_true] at hi
  refine wpList_plain hg fun K hK => ?_
  unfold Oper.wp
  rw [hr a ha]
  refine hc.mono fun e w' hR => ?_
  obtain ⟨v, rfl, hO⟩ := h e w' hR
  exact hK _ _ (hO hi.2 _ (ha.put hi.1 v) (by cases hx : o.dst <;> exact hd))
theorem Ops.enterS {o : Oper} {d : Nat} {f : FuncId} {args : Array Value} {v : Value} {R : Ending → World → Prop} (hg : o.guard = none) (hd : o.dst = some d) (hr : ∀ a, Rep n a ρ → (execOp a.eval o).run P w = .ok (.enter f args) w)
    (hc : Calls P f args w R) (hR : ∀ e w', R e w' → e = .returned v ∧ w' = w) (h : Ops md P n ds all k Φ l ((d, v) :: ρ) w) : Ops md P n ds all k Φ (o :: l) ρ w := by
  intro hi a ha hds
  simp only [List.all_cons, Bool.and_eq_true] at hi
  have h' := h hi.2 (a.put o.dst v) (by have := ha.put hi.1 v; rw [hd] at this ⊢; exact this) (by rw [hd]; exact hds)
  cases md with
  | none =>
    refine wpList_plain hg fun K hK => ?_
    unfold Oper.wp
    rw [hr a ha]
    refine hc.mono fun e w' hR' => ?_
    obtain ⟨rfl, rfl⟩ := hR e w' hR'
    exact hK _ _ h'
  | some tl =>
    refine wpStill_step fun K hK => ?_
    rw [if_pos (by simp [Region.wanted, hg])]
    unfold Oper.still
    rw [hr a ha]
    exact ⟨rfl, v, hc.mono hR, hK _ h'⟩
end
end Go.Proofs.YtcmjlmnfdncajaaGreatDoor.VW
/- Operations that only compute. -/
namespace Go.Proofs.YtcmjlmnfdncajaaGreatDoor.VW
open Go
/-- What the walks ask of a type. -/
inductive TD where
  | bool | int (k : IntKind) | string | slice (e : Nat) | map (k e : Nat) | struct (fs : List (Nat × Nat)) | array (len e : Nat) | pointer (e : Nat) | func | iface | other
def tdOf (P : Program) (t : Nat) : Option TD :=
  match P.underlying t with
  | some .bool => some .bool
  | some (.int k) => some (.int k)
  | some .string => some .string
  | some (.slice e) => some (.slice e)
  | some (.map k e) => some (.map k e)
  | some (.struct fs) => some (.struct (fs.toList.map fun f => (f.offset, ((P.info? f.type).map (·.size)).getD 0)))
  | some (.array n e) => some (.array n e)
  | some (.pointer e) => some (.pointer e)
  | some (.func ..) => some .func
  | some (.interface _) => some .iface
  | some _ => some .other
  | none => none
/-- A table of the program's types that the walks meet: its number; what it is; cells, bytes, zero. -/
structure Ty where
  t : Nat
  d : TD
  size : Nat
  bytes : Nat
  zero : Value
def tget : List Ty → Nat → Option Ty
  | [], _ => none
  | p :: r, t => bif Nat.beq p.t t then some p else tget r t
class Tab (P : Program) where
  T : List Ty
  ok : T.map (fun e => (tdOf P e.t, (P.info? e.t).map fun i => (i.size, i.bytes, i.zero))) = T.map (fun e => (some e.d, some (e.size, e.bytes, some e.zero)))
def ty (P : Program) [h : Tab P] (t : Nat) : Option Ty := tget h.T t
theorem tget_ok {P : Program} {t : Nat} {e : Ty} : ∀ {T : List Ty}, T.map (fun e => (tdOf P e.t, (P.info? e.t).map fun i => (i.size, i.bytes, i.zero))) = T.map (fun e => (some e.d, some (e.size, e.bytes, some e.zero))) → tget T t = some e →
    tdOf P t = some e.d ∧ ∃ i, P.info? t = some i ∧ i.size = e.size ∧ i.bytes = e.bytes ∧ i.zero = some e.zero
  | [], _, hg => by simp [tget] at hg
  | p :: r, h, hg => by
    simp only [List.map_cons, List.cons.injEq, Prod.mk.injEq] at h
    simp only [tget] at hg
    cases hb : Nat.beq p.t t with
    | true =>
      rw [hb] at hg
      have := Nat.eq_of_beq_eq_true hb
      subst this
      simp at hg
      subst hg
      refine ⟨h.1.1, ?_⟩
      have h2 := h.1.2
      cases hi : P.info? p.t with
      | none => rw [hi] at h2; simp at h2
      | some i => rw [hi] at h2; simp at h2; exact ⟨i, rfl, h2.1, h2.2.1, h2.2.2⟩
    | false => rw [hb] at hg; exact tget_ok h.2 hg
theorem ty_ok {P : Program} [h : Tab P] {t : Nat} {e : Ty} (hg : ty P t = some e) : tdOf P t = some e.d ∧ ∃ i, P.info? t = some i ∧ i.size = e.size ∧ i.bytes = e.bytes ∧ i.zero = some e.zero := tget_ok h.ok hg
section
variable {P : Program} {t : Nat}
theorem td_slice {e : Nat} (h : tdOf P t = some (.slice e)) : P.underlying t = some (.slice e) := by
  unfold tdOf at h; split at h <;> simp_all
theorem td_int {k : IntKind} (h : tdOf P t = some (.int k)) : P.underlying t = some (.int k) := by
  unfold tdOf at h; split at h <;> simp_all
theorem td_bool (h : tdOf P t = some .bool) : P.underlying t = some .bool := by
  unfold tdOf at h; split at h <;> simp_all
theorem td_string (h : tdOf P t = some .string) : P.underlying t = some .string := by
  unfold tdOf at h; split at h <;> simp_all
theorem td_map {a e : Nat} (h : tdOf P t = some (.map a e)) : P.underlying t = some (.map a e) := by
  unfold tdOf at h; split at h <;> simp_all
theorem td_array {a e : Nat} (h : tdOf P t = some (.array a e)) : P.underlying t = some (.array a e) := by
  unfold tdOf at h; split at h <;> simp_all
theorem td_pointer {e : Nat} (h : tdOf P t = some (.pointer e)) : P.underlying t = some (.pointer e) := by
  unfold tdOf at h; split at h <;> simp_all
theorem td_iface (h : tdOf P t = some .iface) : ∃ m, P.underlying t = some (.interface m) := by
  unfold tdOf at h; split at h <;> simp_all
theorem td_struct {fs : List (Nat × Nat)} (h : tdOf P t = some (.struct fs)) : ∃ gs, P.underlying t = some (.struct gs) ∧ gs.toList.map (fun f => (f.offset, ((P.info? f.type).map (·.size)).getD 0)) = fs := by
  unfold tdOf at h; split at h <;> simp_all
end
def isAggB : TD → Bool
  | .struct _ => true
  | .array _ _ => true
  | _ => false
/-- What an operation that only computes gives. -/
def cmpV : BinOp → Int → Int → Option Value
  | .eql, a, b => some (.bool (a == b))
  | .neq, a, b => some (.bool (a != b))
  | .lss, a, b => some (.bool (decide (a < b)))
  | .leq, a, b => some (.bool (decide (a ≤ b)))
  | .gtr, a, b => some (.bool (decide (a > b)))
  | .geq, a, b => some (.bool (decide (a ≥ b)))
  | _, _, _ => none
def kEq : IntKind → IntKind → Bool
  | .i8, .i8 | .i16, .i16 | .i32, .i32 | .i64, .i64 | .u8, .u8 | .u16, .u16 | .u32, .u32 | .u64, .u64 => true
  | _, _ => false
theorem kEq_eq {a b : IntKind} (h : kEq a b = true) : a = b := by cases a <;> cases b <;> simp [kEq] at h <;> rfl
def binV (op : BinOp) : Value → Value → Option Value
  | .int k a, .int k' b => bif kEq k k' then cmpV op a b else none
  | _, _ => none
def evs (ρ : E) : List Operand → Option (List Value)
  | [] => some []
  | x :: r => match ev ρ x, evs ρ r with
    | some v, some vs => some (v :: vs)
    | _, _ => none
def nth : List Value → Nat → Option Value
  | [], _ => none
  | v :: _, 0 => some v
  | _ :: r, i + 1 => nth r i
theorem nth_eq : ∀ (l : List Value) (i : Nat), nth l i = l[i]?
  | [], _ => by simp [nth]
  | _ :: _, 0 => by simp [nth]
  | _ :: r, i + 1 => by simp [nth, nth_eq r i]
def pureV (ρ : E) : Op → Option Value
  | .move x => ev ρ x
  | .assign x => ev ρ x
  | .binOp op _ x y _ => match ev ρ x, ev ρ y with
    | some a, some b => binV op a b
    | _, _ => none
  | .unOp .not _ x => match ev ρ x with
    | some (.bool b) => some (.bool (!b))
    | _ => none
  | .pick c x y => match ev ρ c with
    | some (.bool true) => ev ρ x
    | some (.bool false) => ev ρ y
    | _ => none
  | .extract x i => match ev ρ x with
    | some (.tuple vs) => nth vs.toList i
    | _ => none
  | .makeFunc f a b => match evs ρ a.toList, evs ρ b.toList with
    | some xs, some ys => some (.func f xs.toArray ys.toArray)
    | _, _ => none
  | .nilCheck x => match ev ρ x with
    | some (.pointer (some p)) => some (.pointer (some p))
    | some (.func (.func f) a b) => some (.func (.func f) a b)
    | _ => none
  | _ => none
theorem evs_map {n : Nat} {a : Act} {ρ : E} (h : Rep n a ρ) : ∀ {l : List Operand} {vs : List Value}, evs ρ l = some vs → l.map a.eval = vs
  | [], vs, e => by simp [evs] at e; simp [e]
  | x :: r, vs, e => by
    simp only [evs] at e
    split at e
    · rename_i v us h1 h2
      simp at e
      subst e
      simp [h.ev h1, evs_map h h2]
    · simp at e
section
variable {P : Program} {n : Nat} {ds : List Deferred} {Φ : Post} {k : List It} {ρ : E} {w : World} {all : Array Oper} {l : List Oper} {md : Option (List Oper)}
theorem run_cmp {op : BinOp} {a b : Int} {v : Value} (h : cmpV op a b = some v) : (Op.intCmp op a b).run P w = .ok v w := by
  cases op <;> simp [cmpV] at h <;> subst h <;> rfl
theorem pureV_ok {o : Oper} {v : Value} (h : pureV ρ o.op = some v) {a : Act} (hr : Rep n a ρ) : (execOp a.eval o).run P w = .ok (.value v) w := by
  obtain ⟨dst, op, ty, pos, aft, g⟩ := o
  cases op <;> simp only [pureV] at h <;> try (simp at h; done)
  case move x => simp [execOp, hr.ev h]
  case assign x => simp [execOp, hr.ev h]
  case binOp op t x y ty' =>
    split at h
    · rename_i u u' h1 h2
      simp only [execOp, hr.ev h1, hr.ev h2]
      cases u <;> simp only [binV] at h <;> try (simp at h; done)
      rename_i k1 n1
      cases u' <;> simp only at h <;> try (simp at h; done)
      rename_i k2 n2
      cases hk : kEq k1 k2 with
      | false => rw [hk] at h; simp at h
      | true =>
        rw [hk] at h
        have := kEq_eq hk
        subst this
        simp only [cond_true] at h
        cases op <;> simp [cmpV] at h <;> subst h <;> simp [eqGuard, binOp, Op.intCmp, go_sem]
    · simp at h
  case unOp op t x =>
    cases op <;> simp only at h <;> try (simp at h; done)
    split at h
    · rename_i b h1
      simp at h
      subst h
      simp [execOp, hr.ev h1]; rfl
    · simp at h
  case pick c x y =>
    split at h
    · rename_i h1
      simp [execOp, hr.ev h1, hr.ev h, asBool]
    · rename_i h1
      simp [execOp, hr.ev h1, hr.ev h, asBool]
    · simp at h
  case nilCheck x =>
    split at h
    · rename_i p h1
      simp at h
      subst h
      simp [execOp, hr.ev h1]
    · rename_i p c d h1
      simp at h
      subst h
      simp [execOp, hr.ev h1]
    · simp at h
  case makeFunc f x y =>
    split at h
    · rename_i xs ys h1 h2
      simp at h
      subst h
      have e1 := evs_map hr h1
      have e2 := evs_map hr h2
      simp only [execOp]
      have q1 : x.map a.eval = xs.toArray := by apply Array.toList_inj.1; simpa using e1
      have q2 : y.map a.eval = ys.toArray := by apply Array.toList_inj.1; simpa using e2
      rw [q1, q2]; rfl
    · simp at h
  case extract x i =>
    split at h
    · rename_i vs h1
      simp only [execOp, hr.ev h1, Instr.extract]
      rw [nth_eq, Array.getElem?_toList] at h
      rw [h]; rfl
    · simp at h
/-- An operation that only computes. -/
theorem Ops.pu {o : Oper} {v : Value} {d : Nat} (hd : o.dst = some d) (hg : o.guard = none) (h : pureV ρ o.op = some v) (hk : Ops md P n ds all k Φ l ((d, v) :: ρ) w) : Ops md P n ds all k Φ (o :: l) ρ w :=
  Ops.valS hd hg (fun _ hr => pureV_ok h hr) hk
/-- Sums that stay in range. -/
def inR (x : Int) : Prop := -9223372036854775808 ≤ x ∧ x ≤ 9223372036854775807
theorem wrap_in {x : Int} (h : inR x) : IntKind.i64.wrap x = x := by
  unfold inR at h
  simp only [IntKind.wrap, IntKind.bits, IntKind.signed]
  simp
  omega
def arV (ρ : E) : Op → Option Int
  | .binOp op _ x y _ => match ev ρ x, ev ρ y with
    | some (.int .i64 a), some (.int .i64 b) => match op with
      | .add => some (a + b)
      | .sub => some (a - b)
      | .mul => some (a * b)
      | _ => none
    | _, _ => none
  | .unOp .neg _ x => match ev ρ x with
    | some (.int .i64 a) => some (0 - a)
    | _ => none
  | _ => none
theorem arV_ok {o : Oper} {x : Int} (h : arV ρ o.op = some x) (hb : inR x) {a : Act} (hr : Rep n a ρ) : (execOp a.eval o).run P w = .ok (.value (.int .i64 x)) w := by
  obtain ⟨dst, op, ty, pos, aft, g⟩ := o
  have hw := wrap_in hb
  cases op <;> simp only [arV] at h <;> try (simp at h; done)
  case binOp op t x' y ty' =>
    split at h
    · rename_i u u' h1 h2
      simp only [execOp, hr.ev h1, hr.ev h2]
      cases op <;> simp only at h <;> (try (simp at h; done)) <;> simp at h <;> subst h
      all_goals simp [eqGuard, binOp, Op.intArith, go_sem, hw]
    · simp at h
  case unOp op t x' =>
    cases op <;> simp only at h <;> try (simp at h; done)
    split at h
    · rename_i u h1
      simp only [execOp, hr.ev h1]
      simp only [Option.some.injEq] at h; subst h
      show Result.ok (Next.value (.int .i64 (IntKind.i64.wrap _))) w = _; rw [hw]
    · simp at h
theorem Ops.ar {o : Oper} {x : Int} {d : Nat} (hd : o.dst = some d) (hg : o.guard = none) (h : arV ρ o.op = some x) (hb : -9223372036854775808 ≤ x ∧ x ≤ 9223372036854775807) (hk : Ops md P n ds all k Φ l ((d, .int .i64 x) :: ρ) w) : Ops md P n ds all k Φ (o :: l) ρ w :=
  Ops.valS hd hg (fun _ hr => arV_ok h hb hr) hk
theorem yielded_of {a : Act} (hr : Rep n a ρ) {j d : Nat} {b : Bool} (hj : (all[j]?).bind (·.dst) = some d) (hv : look ρ d = some (.bool b)) : yielded all a.tmps j = some b := by
  have h := hr.slot d _ hv
  have h2 : a.tmps[d]? = some (.bool b) := by
    rw [Array.getD_eq_getD_getElem?] at h
    cases hx : a.tmps[d]? with
    | none => rw [hx] at h; simp [undef] at h
    | some v => rw [hx] at h; simp at h; rw [h]
  simp [yielded, hj, h2]
/-- A guarded operation that does not run. -/
theorem Ops.no {o : Oper} {j : Nat} {want b : Bool} {d d' : Nat} (hdst : o.dst = some d') (hg : o.guard = some (j, want)) (hj : (all[j]?).bind (·.dst) = some d) (hv : look ρ d = some (.bool b)) (hne : b = !want)
    (h : Ops md P n ds all k Φ l ((d', undef) :: ρ) w) : Ops md P n ds all k Φ (o :: l) ρ w := by
  intro hi a ha hd
  simp only [List.all_cons, Bool.and_eq_true] at hi
  have hy := yielded_of ha hj hv
  have h' := h hi.2 (a.put o.dst undef) (by have := ha.put hi.1 undef; rw [hdst] at this ⊢; exact this) (by cases hx : o.dst <;> exact hd)
  cases md with
  | none =>
    show wpList _ _ _ _ _ _
    unfold wpList
    rw [if_neg (by simp [Region.wanted, hg, hy, hne])]
    exact h'
  | some tl =>
    refine wpStill_step fun K hK => ?_
    rw [if_neg (by simp [Region.wanted, hg, hy, hne])]
    exact hK _ h'
/-- A guarded operation that runs: the same without its guard. -/
theorem Ops.yes {o : Oper} {j : Nat} {want : Bool} {d : Nat} (hg : o.guard = some (j, want)) (hj : (all[j]?).bind (·.dst) = some d) (hv : look ρ d = some (.bool want))
    (h : Ops md P n ds all k Φ ({ o with guard := none } :: l) ρ w) : Ops md P n ds all k Φ (o :: l) ρ w := by
  intro hi a ha hd
  have h' := h (by simpa using hi) a ha hd
  have hy := yielded_of ha hj hv
  cases md with
  | none =>
    show wpList _ _ _ _ _ _
    have h2 : wpList _ _ _ _ _ _ := h'
    unfold wpList at h2 ⊢
    rw [if_pos (by simp [Region.wanted])] at h2
    rw [if_pos (by simp [Region.wanted, hg, hy])]
    exact h2
  | some tl =>
    show wpStill _ _ _ _ _ _
    have h2 : wpStill _ _ _ _ _ _ := h'
    unfold wpStill at h2 ⊢
    rw [if_pos (by simp [Region.wanted])] at h2
    rw [if_pos (by simp [Region.wanted, hg, hy])]
    exact h2
/-- A guard that is not known. -/
theorem Ops.gd {o : Oper} {j : Nat} {want b : Bool} {d d' : Nat} (hdst : o.dst = some d') (hg : o.guard = some (j, want)) (hj : (all[j]?).bind (·.dst) = some d) (hv : look ρ d = some (.bool b))
    (h1 : b = want → Ops md P n ds all k Φ ({ o with guard := none } :: l) ((d, .bool want) :: ρ) w) (h2 : b = !want → Ops md P n ds all k Φ l ((d', undef) :: (d, .bool (!want)) :: ρ) w) : Ops md P n ds all k Φ (o :: l) ρ w := by
  have hsub : ∀ ρ' : E, (∀ t v, look ρ' t = some v → look ρ t = some v) → ∀ a, Rep n a ρ → Rep n a ρ' := fun ρ' hl a hr => ⟨hr.size, fun t v h => hr.slot t v (hl t v h)⟩
  have hl : ∀ c, b = c → ∀ t v, look ((d, .bool c) :: ρ) t = some v → look ρ t = some v := by
    intro c hc t v h
    simp only [look] at h
    cases hb : Nat.beq d t with
    | true => rw [hb] at h; simp at h; rw [← Nat.eq_of_beq_eq_true hb, hv, hc, h]
    | false => rw [hb] at h; exact h
  have hld : ∀ c : Bool, look ((d, .bool c) :: ρ) d = some (.bool c) := fun c => by simp [look]
  by_cases hb : b = want
  · exact fun hi a hr hd => Ops.yes hg hj (hld want) (h1 hb) hi a (hsub _ (hl _ hb) a hr) hd
  · have hb' : b = !want := by cases b <;> cases want <;> simp_all
    exact fun hi a hr hd => Ops.no hdst hg hj (hld (!want)) rfl (h2 hb') hi a (hsub _ (hl _ hb') a hr) hd
theorem Ops.gdT {o : Oper} {j : Nat} {b : Bool} {d d' : Nat} (hdst : o.dst = some d') (hg : o.guard = some (j, true)) (hj : (all[j]?).bind (·.dst) = some d) (hv : look ρ d = some (.bool b))
    (h1 : b = true → Ops md P n ds all k Φ ({ o with guard := none } :: l) ((d, .bool true) :: ρ) w) (h2 : b = false → Ops md P n ds all k Φ l ((d', undef) :: (d, .bool false) :: ρ) w) : Ops md P n ds all k Φ (o :: l) ρ w := Ops.gd hdst hg hj hv h1 h2
theorem Ops.gdF {o : Oper} {j : Nat} {b : Bool} {d d' : Nat} (hdst : o.dst = some d') (hg : o.guard = some (j, false)) (hj : (all[j]?).bind (·.dst) = some d) (hv : look ρ d = some (.bool b))
    (h1 : b = true → Ops md P n ds all k Φ l ((d', undef) :: (d, .bool true) :: ρ) w) (h2 : b = false → Ops md P n ds all k Φ ({ o with guard := none } :: l) ((d, .bool false) :: ρ) w) : Ops md P n ds all k Φ (o :: l) ρ w := Ops.gd hdst hg hj hv h2 h1
/-- A guard that did not run itself. -/
theorem Ops.nu {o : Oper} {j : Nat} {want : Bool} {d d' : Nat} (hdst : o.dst = some d') (hg : o.guard = some (j, want)) (hj : (all[j]?).bind (·.dst) = some d) (hv : look ρ d = some undef)
    (h : Ops md P n ds all k Φ l ((d', undef) :: ρ) w) : Ops md P n ds all k Φ (o :: l) ρ w := by
  intro hi a ha hd
  simp only [List.all_cons, Bool.and_eq_true] at hi
  have hy : yielded all a.tmps j = none := by
    have h := ha.slot d _ hv
    rw [Array.getD_eq_getD_getElem?] at h
    simp only [yielded, hj, Option.bind_some]
    cases hx : a.tmps[d]? with
    | none => rfl
    | some v => rw [hx] at h; simp at h; rw [h]; rfl
  have h' := h hi.2 (a.put o.dst undef) (by have := ha.put hi.1 undef; rw [hdst] at this ⊢; exact this) (by cases hx : o.dst <;> exact hd)
  cases md with
  | none =>
    show wpList _ _ _ _ _ _
    unfold wpList
    rw [if_neg (by simp [Region.wanted, hg, hy])]
    exact h'
  | some tl =>
    refine wpStill_step fun K hK => ?_
    rw [if_neg (by simp [Region.wanted, hg, hy])]
    exact hK _ h'
end
end Go.Proofs.YtcmjlmnfdncajaaGreatDoor.VW
/- Operations on memory. -/
namespace Go.Proofs.YtcmjlmnfdncajaaGreatDoor.VW
open Go Go.RowKit
/-- What w had stands in w', but for the blocks of S. -/
structure Kp (S : Nat → Prop) (w w' : World) : Prop where
  os : w'.os = w.os
  tape : w'.tape = w.tape
  output : w'.output = w.output
  size : w.heap.size ≤ w'.heap.size
  blk : ∀ i, i < w.heap.size → ¬ S i → w'.heap[i]? = w.heap[i]?
theorem Kp.refl (S : Nat → Prop) (w : World) : Kp S w w := ⟨rfl, rfl, rfl, Nat.le_refl _, fun _ _ _ => rfl⟩
theorem Kp.trans {S S' : Nat → Prop} {a b c : World} (h : Kp S a b) (k : Kp S' b c) : Kp (fun i => S i ∨ S' i) a c :=
  ⟨k.os.trans h.os, k.tape.trans h.tape, k.output.trans h.output, Nat.le_trans h.size k.size, fun i hi hn => (k.blk i (Nat.lt_of_lt_of_le hi h.size) (fun e => hn (.inr e))).trans (h.blk i hi (fun e => hn (.inl e)))⟩
theorem Kp.mono {S S' : Nat → Prop} {a b : World} (h : Kp S a b) (hs : ∀ i, i < a.heap.size → S i → S' i) : Kp S' a b := ⟨h.os, h.tape, h.output, h.size, fun i hi hn => h.blk i hi (fun e => hn (hs i hi e))⟩
/-- Steps that touch only what is new since w0. -/
theorem Kp.then {B : Nat} {S : Nat → Prop} {a b c : World} (h : Below B a b) (hB : B ≤ b.heap.size) (k : Kp S b c) (hs : ∀ i, S i → B ≤ i) : Below B a c :=
  ⟨k.os.trans h.os, k.tape.trans h.tape, k.output.trans h.output, Nat.le_trans h.size k.size, fun i hi => (k.blk i (by omega) (fun e => by have := hs i e; omega)).trans (h.block i hi)⟩
theorem Kp.below {S : Nat → Prop} {B : Nat} {a b : World} (h : Kp S a b) (hB : B ≤ a.heap.size) (hs : ∀ i, i < B → ¬ S i) : Below B a b := ⟨h.os, h.tape, h.output, h.size, fun i hi => h.blk i (by omega) (hs i hi)⟩
theorem Kp.of_below {S : Nat → Prop} {w w' : World} (h : Below w.heap.size w w') : Kp S w w' := ⟨h.os, h.tape, h.output, h.size, fun i hi _ => h.block i hi⟩
theorem Kp.of_grown {w w' : World} {row : Option Nat} (h : w.grownBy w' row) : Kp (fun i => some i = row) w w' := ⟨h.os, h.tape, h.output, h.size, fun i hi hn => h.block i hi hn⟩
theorem Kp.grown {S : Nat → Prop} {w w' : World} {row : Option Nat} (h : Kp S w w') (hs : ∀ i, S i → some i = row) : w.grownBy w' row := ⟨h.os, h.tape, h.output, h.size, fun i hi hn => h.blk i hi (fun e => hn (hs i e))⟩
/-- A block of cells of the call's own. -/
def Blk (w : World) (b : Nat) (cs : Array Value) (t : Nat) : Prop := w.heap[b]? = some (.cells cs t (0, 0))
theorem Blk.lt {w : World} {b t : Nat} {cs : Array Value} (h : Blk w b cs t) : b < w.heap.size := (Array.getElem?_eq_some_iff.1 h).1
theorem Blk.kp {S : Nat → Prop} {w w' : World} {b t : Nat} {cs : Array Value} (h : Blk w b cs t) (k : Kp S w w') (hs : ¬ S b) : Blk w' b cs t := (k.blk b h.lt hs).trans h
theorem Blk.cell {w : World} {b t : Nat} {cs : Array Value} (h : Blk w b cs t) {i : Nat} {v : Value} (hi : cs[i]? = some v) : w.cell? ⟨b, i, none⟩ = some v := by
  unfold Blk at h
  simp [World.cell?, h, hi]
theorem cell_kp {S : Nat → Prop} {w w' : World} (k : Kp S w w') {a : Addr} {v : Value} (h : w.cell? a = some v) (hs : ¬ S a.block) : w'.cell? a = some v :=
  (World.cell?_of_block (w := w) (k.blk a.block (World.block_lt_of_cell? w a h) hs)).trans h
theorem own_kp {S : Nat → Prop} {w w' : World} {base e size n : Nat} {v : Value} {xs : List Value} (h : w.ownsRow base e size v n xs) (k : Kp S w w') (hs : ∀ i, v.ownBlock = some i → ¬ S i) : w'.ownsRow base e size v n xs := by
  refine ⟨h.1, ?_⟩
  rcases h.2 with hn | ⟨g, cap, cur, rfl, hb, hgg, rest⟩
  · exact .inl hn
  · exact .inr ⟨g, cap, cur, rfl, hb, (k.blk g (Array.getElem?_eq_some_iff.1 hgg).1 (hs g rfl)).trans hgg, rest⟩
structure Mk (w w' : World) (r : Nat) (o : Obj) : Prop where
  r_eq : r = w.heap.size
  at_ : w'.heap[r]? = some o
  kp : Kp (fun _ => False) w w'
  size : w'.heap.size = w.heap.size + 1
theorem mk_alloc (w : World) (o : Obj) : Mk w (w.alloc o) w.heap.size o :=
  ⟨rfl, heap_alloc_new w o, ⟨rfl, rfl, rfl, by simp, fun i hi _ => Below.heap_alloc w o i hi⟩, by simp⟩
structure Upd (w w' : World) (b : Nat) (cs : Array Value) (t : Nat) : Prop where
  blk : Blk w' b cs t
  kp : Kp (fun i => i = b) w w'
  size : w'.heap.size = w.heap.size
theorem upd_set {w : World} {b t : Nat} {cs : Array Value} (h : Blk w b cs t) (q : Nat) (v : Value) : Upd w (w.setCell ⟨b, q, none⟩ v) b (cs.setIfInBounds q v) t := by
  refine ⟨?_, ⟨rfl, rfl, rfl, by simp [World.setCell], fun i hi hn => Below.heap_setCell _ _ _ _ hn⟩, by simp [World.setCell]⟩
  unfold Blk at *
  simp [World.setCell, Array.getElem?_modify, h]
def tyD (P : Program) [Tab P] (t : Nat) : Option TD := (ty P t).map (·.d)
def tyS (P : Program) [Tab P] (t : Nat) : Option Nat := (ty P t).map (·.size)
def tyB (P : Program) [Tab P] (t : Nat) : Option Nat := (ty P t).map (·.bytes)
def tyZ (P : Program) [Tab P] (t : Nat) : Option Value := (ty P t).map (·.zero)
def tyAgg (P : Program) [Tab P] (t : Nat) : Option Bool := (ty P t).map (fun e => isAggB e.d)
section
variable {P : Program} [hT : Tab P] {n : Nat} {ds : List Deferred} {Φ : Post} {k : List It} {ρ : E} {w : World} {all : Array Oper} {l : List Oper} {md : Option (List Oper)}
theorem tyD_ok {t : Nat} {d : TD} (h : tyD P t = some d) : tdOf P t = some d := by
  unfold tyD at h
  cases hx : ty P t with
  | none => rw [hx] at h; simp at h
  | some e => rw [hx] at h; simp at h; subst h; exact (ty_ok hx).1
theorem tyS_ok {t s : Nat} (h : tyS P t = some s) : ∃ i, P.info? t = some i ∧ i.size = s := by
  unfold tyS at h
  cases hx : ty P t with
  | none => rw [hx] at h; simp at h
  | some e => rw [hx] at h; simp at h; subst h; obtain ⟨_, i, hi, hs, _⟩ := ty_ok hx; exact ⟨i, hi, hs⟩
theorem run_sizeOf {t s : Nat} (h : tyS P t = some s) : (sizeOf t).run P w = .ok s w := by
  obtain ⟨i, hi, hs⟩ := tyS_ok h
  simp [sizeOf, typeInfo, hi, hs]
theorem run_typeInfo {t : Nat} {e : Ty} (h : ty P t = some e) : ∃ i, (typeInfo t).run P w = .ok i w ∧ i.size = e.size ∧ i.bytes = e.bytes ∧ i.zero = some e.zero := by
  obtain ⟨_, i, hi, hs⟩ := ty_ok h
  exact ⟨i, by simp [typeInfo, hi], hs⟩
theorem run_zeroV {t : Nat} {z : Value} (h : tyZ P t = some z) : (zeroValue t).run P w = .ok z w := by
  unfold tyZ at h
  cases hx : ty P t with
  | none => rw [hx] at h; simp at h
  | some e =>
    rw [hx] at h; simp at h; subst h
    obtain ⟨_, i, hi, hs, hb, hz⟩ := ty_ok hx
    simp [zeroValue, typeInfo, hi, hz]
theorem run_isAgg {t : Nat} {b : Bool} (h : tyAgg P t = some b) : (isAgg t).run P w = .ok b w := by
  unfold tyAgg at h
  cases hx : ty P t with
  | none => rw [hx] at h; simp at h
  | some e =>
    rw [hx] at h; simp at h
    have hd := (ty_ok hx).1
    unfold tdOf at hd
    cases hu : P.underlying t with
    | none => rw [hu] at hd; simp at hd
    | some d =>
      rw [hu] at hd
      cases d <;> simp at hd <;> rw [← hd] at h <;> simp [isAggB] at h <;> subst h <;> simp [isAgg, underlying, hu]
omit hT in
theorem run_und {t : Nat} {d : TypeDesc} (h : P.underlying t = some d) : (underlying t).run P w = .ok d w := by simp [underlying, h]
/-- len of a slice. -/
theorem Ops.len {o : Oper} {d t e m c : Nat} {x : Operand} {A : Option Addr} (ho : o.op = .call { callee := .builtin .len, args := #[x], argTypes := #[t] }) (hd : o.dst = some d) (hg : o.guard = none)
    (ht : tyD P t = some (.slice e)) (hx : ev ρ x = some (.slice A m c)) (hk : Ops md P n ds all k Φ l ((d, .int .i64 m) :: ρ) w) : Ops md P n ds all k Φ (o :: l) ρ w := by
  refine Ops.valS hd hg (fun a hr => ?_) hk
  have hu := td_slice (tyD_ok ht)
  simp [execOp, ho, resolve, hr.ev hx, invoke, builtin, Builtin.len_, run_und hu, goInt]
/-- An element's address. -/
theorem Ops.idx {o : Oper} {d t e sz m c : Nat} {x y : Operand} {A : Addr} {i : Int} (ho : o.op = .indexAddr t x y) (hd : o.dst = some d) (hg : o.guard = none)
    (ht : tyD P t = some (.slice e)) (hs : tyS P e = some sz) (hx : ev ρ x = some (.slice (some A) m c)) (hy : ev ρ y = some (.int .i64 i)) (h0 : 0 ≤ i) (h1 : i < m)
    (hk : Ops md P n ds all k Φ l ((d, .pointer (some (A.add (i.toNat * sz)))) :: ρ) w) : Ops md P n ds all k Φ (o :: l) ρ w := by
  refine Ops.valS hd hg (fun a hr => ?_) hk
  have hu := td_slice (tyD_ok ht)
  simp [execOp, ho, Instr.indexAt, asIntOf, hr.ev hx, hr.ev hy, run_und hu, run_sizeOf hs, h0, h1]
/-- A field's address. -/
def foff : List (Nat × Nat) → Nat → Option (Nat × Nat)
  | [], _ => none
  | (a, b) :: _, 0 => some (a, b)
  | _ :: r, i + 1 => foff r i
theorem foff_eq : ∀ (l : List (Nat × Nat)) (i : Nat), foff l i = l[i]?
  | [], _ => by simp [foff]
  | (_, _) :: _, 0 => by simp [foff]
  | _ :: r, i + 1 => by simp [foff, foff_eq r i]
def fieldOff (P : Program) [Tab P] (t i : Nat) : Option (Nat × Nat) := match tyD P t with
  | some (.struct fs) => foff fs i
  | _ => none
theorem fieldOff_ok {t i off sz : Nat} (h : fieldOff P t i = some (off, sz)) : ∃ gs f, P.underlying t = some (.struct gs) ∧ gs[i]? = some f ∧ f.offset = off ∧ ((P.info? f.type).map (·.size)).getD 0 = sz := by
  unfold fieldOff at h
  split at h
  · rename_i fs hfs
    obtain ⟨gs, hu, hm⟩ := td_struct (tyD_ok hfs)
    rw [foff_eq, ← hm] at h
    simp at h
    obtain ⟨f, hf, h1, h2⟩ := h
    exact ⟨gs, f, hu, hf, h1, h2⟩
  · simp at h
theorem Ops.fld {o : Oper} {d t i off sz : Nat} {x : Operand} {p : Addr} (ho : o.op = .fieldAddr t x i) (hd : o.dst = some d) (hg : o.guard = none)
    (ht : fieldOff P t i = some (off, sz + 1)) (hx : ev ρ x = some (.pointer (some p))) (hk : Ops md P n ds all k Φ l ((d, .pointer (some (p.add off))) :: ρ) w) : Ops md P n ds all k Φ (o :: l) ρ w := by
  refine Ops.valS hd hg (fun a hr => ?_) hk
  obtain ⟨gs, f, hu, hf, h1, h2⟩ := fieldOff_ok ht
  cases hi : P.info? f.type with
  | none => rw [hi] at h2; simp at h2
  | some j =>
    rw [hi] at h2
    simp at h2
    simp [execOp, ho, Instr.fieldAt, Instr.sureAddr, hr.ev hx, run_und hu, hf, fieldPlace, sizeOf, typeInfo, hi, h2, h1]
/-- The same at a plain address. -/
theorem add_lit (b q j : Nat) : (⟨b, q, none⟩ : Addr).add j = ⟨b, q + j, none⟩ := by unfold Addr.add; split <;> simp_all
theorem Ops.flp {o : Oper} {d t i off sz b q : Nat} {x : Operand} (ho : o.op = .fieldAddr t x i) (hd : o.dst = some d) (hg : o.guard = none)
    (ht : fieldOff P t i = some (off, sz + 1)) (hx : ev ρ x = some (.pointer (some ⟨b, q, none⟩))) (hk : Ops md P n ds all k Φ l ((d, .pointer (some ⟨b, q + off, none⟩)) :: ρ) w) : Ops md P n ds all k Φ (o :: l) ρ w :=
  Ops.fld ho hd hg ht hx (by rw [add_lit]; exact hk)
/-- A load of one cell. -/
theorem Ops.ld {o : Oper} {d t : Nat} {x : Operand} {p : Addr} {v : Value} (ho : o.op = .load t x) (hd : o.dst = some d) (hg : o.guard = none)
    (ht : tyAgg P t = some false) (hx : ev ρ x = some (.pointer (some p))) (hc : w.cell? p = some v) (hk : Ops md P n ds all k Φ l ((d, v) :: ρ) w) : Ops md P n ds all k Φ (o :: l) ρ w := by
  refine Ops.valS hd hg (fun a hr => ?_) hk
  simp [execOp, ho, Instr.loadAt, Instr.sureAddr, hr.ev hx, loadVar, run_isAgg ht, load, Sem.run, hc]
/-- A load out of a block that is known. -/
theorem Ops.ldB {o : Oper} {d t b q t' : Nat} {x : Operand} {cs : Array Value} {v : Value} (ho : o.op = .load t x) (hd : o.dst = some d) (hg : o.guard = none)
    (ht : tyAgg P t = some false) (hx : ev ρ x = some (.pointer (some ⟨b, q, none⟩))) (hb : Blk w b cs t') (hi : nth cs.toList q = some v) (hk : Ops md P n ds all k Φ l ((d, v) :: ρ) w) : Ops md P n ds all k Φ (o :: l) ρ w :=
  Ops.ld ho hd hg ht hx (hb.cell (by rw [nth_eq, Array.getElem?_toList] at hi; exact hi)) hk
/-- A load of two cells. -/
theorem Ops.ld2 {o : Oper} {d t : Nat} {x : Operand} {p : Addr} {v u : Value} (ho : o.op = .load t x) (hd : o.dst = some d) (hg : o.guard = none)
    (ht : tyAgg P t = some true) (hs : tyS P t = some 2) (hx : ev ρ x = some (.pointer (some p))) (hc : w.cell? p = some v) (hc2 : w.cell? (p.add 1) = some u)
    (hk : Ops md P n ds all k Φ l ((d, .agg #[v, u]) :: ρ) w) : Ops md P n ds all k Φ (o :: l) ρ w := by
  refine Ops.valS hd hg (fun a hr => ?_) hk
  have e0 : p.add 0 = p := by simp [Addr.add]
  simp [execOp, ho, Instr.loadAt, Instr.sureAddr, hr.ev hx, loadVar, run_isAgg ht, run_sizeOf hs, loadCells, loadCellsFrom, load, Sem.run, hc, hc2, e0]
/-- A store of one cell into a block of the call's own. -/
theorem run_store1 {t b q : Nat} {v : Value} {cs : Array Value} {t' : Nat} (hs : tyS P t = some 1) (h1 : v.oneCell' = true) (hb : Blk w b cs t') (hq : q < cs.size) :
    (Instr.storeAt t (.pointer (some ⟨b, q, none⟩)) v).run P w = .ok () (w.setCell ⟨b, q, none⟩ v) := by
  have hc : w.cell? ⟨b, q, none⟩ = some cs[q] := hb.cell (by simp [hq])
  have hf : w.frozen? ⟨b, q, none⟩ = false := by
    unfold Blk at hb
    simp [World.frozen?, hb]
  have hcs : v.cells = #[v] := by cases v <;> simp_all [Value.oneCell', Value.cells]
  have e0 : (⟨b, q, none⟩ : Addr).add 0 = ⟨b, q, none⟩ := by simp [Addr.add]
  cases v <;> simp_all [Value.oneCell', Instr.storeAt, Instr.sureAddr, storeVar, run_sizeOf hs, storeCells, store, Sem.run]
theorem Ops.st {o : Oper} {t b q t' : Nat} {x y : Operand} {v : Value} {cs : Array Value} (ho : o.op = .store t x y) (hd : o.dst = none) (hg : o.guard = none)
    (hs : tyS P t = some 1) (hx : ev ρ x = some (.pointer (some ⟨b, q, none⟩))) (hy : ev ρ y = some v) (h1 : v.oneCell' = true) (hb : Blk w b cs t') (hq : q < cs.size)
    (hk : ∀ w', Upd w w' b (cs.setIfInBounds q v) t' → Ops none P n ds all k Φ l ρ w') : Ops none P n ds all k Φ (o :: l) ρ w := by
  refine Ops.unit hg hd (fun a hr => ?_) (hk _ (upd_set hb q v))
  simp [execOp, ho, hr.ev hx, hr.ev hy, run_store1 hs h1 hb hq]
/-- New variables. -/
theorem Ops.alloc {o : Oper} {d t : Nat} {z : Value} (ho : o.op = .alloc t) (hd : o.dst = some d) (hg : o.guard = none) (hz : tyZ P t = some z)
    (hk : ∀ w' r, Mk w w' r (.cells z.cells t) → Ops none P n ds all k Φ l ((d, .pointer (some ⟨r, 0, none⟩)) :: ρ) w') : Ops none P n ds all k Φ (o :: l) ρ w := by
  refine Ops.val hd hg (fun a hr => ?_) (hk _ _ (mk_alloc w _))
  simp [execOp, ho, Instr.alloc, run_zeroV hz, newVar, newRow, newObj, Sem.run]
theorem Ops.box {o : Oper} {d t : Nat} {x : Operand} {v : Value} (ho : o.op = .box t x) (hd : o.dst = some d) (hg : o.guard = none) (hx : ev ρ x = some v)
    (hk : ∀ w' r, Mk w w' r (.cells v.cells t) → Ops none P n ds all k Φ l ((d, .pointer (some ⟨r, 0, none⟩)) :: ρ) w') : Ops none P n ds all k Φ (o :: l) ρ w := by
  refine Ops.val hd hg (fun a hr => ?_) (hk _ _ (mk_alloc w _))
  simp [execOp, ho, Instr.box, hr.ev hx, newVar, newRow, newObj, Sem.run]
/-! ### Calls -/
def callOk (P : Program) (f : Nat) : Bool := match P.funcs[f]? with
  | some fn => !(fn.name == "runtime.NumGoroutine") && fn.body.isSome
  | none => false
omit hT in
theorem run_callFunc {f : Nat} {args : Array Value} (h : callOk P f = true) : (callFunc f args).run P w = .ok (.enter f args) w := by
  unfold callOk at h
  cases hf : P.funcs[f]? with
  | none => rw [hf] at h; simp at h
  | some fn =>
    rw [hf] at h
    simp at h
    obtain ⟨h1, h2⟩ := h
    cases hb : fn.body with
    | none => rw [hb] at h2; simp at h2
    | some b => simp [callFunc, program, hf, h1, hb, Sem.run]
def app1 : List Value → List Value → List Value
  | [], b => b
  | v :: a, b => v :: app1 a b
theorem app1_eq : ∀ (a b : List Value), app1 a b = a ++ b
  | [], b => rfl
  | v :: a, b => by simp [app1, app1_eq a b]
def app3 (a b c : List Value) : List Value := app1 a (app1 b c)
theorem app3_eq (a b c : List Value) : app3 a b c = a ++ b ++ c := by simp [app3, app1_eq]
/-- The function and the arguments of a call. -/
def callV (ρ : E) (c : Call) : Option (Nat × List Value) := match c.callee with
  | .value g => match ev ρ g, evs ρ c.args.toList with
    | some (.func (.func f) first cap), some vs => some (f, app3 first.toList vs cap.toList)
    | _, _ => none
  | _ => none
omit hT in
theorem run_callV {o : Oper} {c : Call} (ho : o.op = .call c) {f : Nat} {vs : List Value} (h : callV ρ c = some (f, vs)) (hc : callOk P f = true) {a : Act} (hr : Rep n a ρ) :
    (execOp a.eval o).run P w = .ok (.enter f vs.toArray) w := by
  unfold callV at h
  split at h
  · rename_i g hg
    split at h
    · rename_i f' first cap us h1 h2
      simp at h
      obtain ⟨rfl, rfl⟩ := h
      have q : c.args.map a.eval = us.toArray := by apply Array.toList_inj.1; simpa using evs_map hr h2
      have hcall := run_callFunc (P := P) (w := w) (args := first ++ us.toArray ++ cap) hc
      have e : (app3 first.toList us cap.toList).toArray = first ++ us.toArray ++ cap := by rw [app3_eq]; apply Array.toList_inj.1; simp
      rw [e, ← hcall]
      simp [execOp, ho, resolve, hg, hr.ev h1, Deferred.ofValue, invoke, q]
    · simp at h
  · simp at h
/-- What a call that returns a value leaves. -/
def Ret (R : Value → World → Prop) (e : Ending) (w : World) : Prop := ∃ v, e = .returned v ∧ R v w
theorem Ret.mk {R : Value → World → Prop} {v : Value} {w : World} (h : R v w) : Ret R (.returned v) w := ⟨v, rfl, h⟩
class Fns (P : Program) where
  L : List Nat
  ok : L.all (callOk P) = true
def memB : List Nat → Nat → Bool
  | [], _ => false
  | a :: r, t => bif Nat.beq a t then true else memB r t
theorem memB_mem : ∀ {l : List Nat} {t : Nat}, memB l t = true → t ∈ l
  | [], _, h => by simp [memB] at h
  | a :: r, t, h => by
    simp only [memB] at h
    cases hb : Nat.beq a t with
    | true => rw [Nat.eq_of_beq_eq_true hb]; simp
    | false => rw [hb] at h; exact List.mem_cons_of_mem _ (memB_mem h)
omit hT in
theorem Fns.call [h : Fns P] {f : Nat} (hf : memB h.L f = true) : callOk P f = true := (List.all_eq_true.1 h.ok) f (memB_mem hf)
omit hT in
/-- A call of a function that has a contract. -/
theorem Ops.call [hF : Fns P] {o : Oper} {c : Call} {d : Option Tmp} {f : Nat} {vs : List Value} {R : Value → World → Prop} (ho : o.op = .call c) (hd : o.dst = d) (hg : o.guard = none) (hv : callV ρ c = some (f, vs)) (hf : memB hF.L f = true)
    (hc : Calls P f vs.toArray w (Ret R)) (hk : ∀ v w', R v w' → Ops none P n ds all k Φ l (put d v ρ) w') : Ops none P n ds all k Φ (o :: l) ρ w :=
  Ops.enter hg hd (fun _ hr => run_callV ho hv (Fns.call hf) hr) hc fun e w' ⟨v, he, hR⟩ => ⟨v, he, hk v w' hR⟩
omit hT in
/-- A call that leaves the world alone. -/
theorem Ops.callS [hF : Fns P] {o : Oper} {c : Call} {d : Nat} {f : Nat} {vs : List Value} {v : Value} (ho : o.op = .call c) (hd : o.dst = some d) (hg : o.guard = none) (hv : callV ρ c = some (f, vs)) (hf : memB hF.L f = true)
    (hc : Calls P f vs.toArray w (Ret fun v' w' => v' = v ∧ w' = w)) (hk : Ops md P n ds all k Φ l ((d, v) :: ρ) w) : Ops md P n ds all k Φ (o :: l) ρ w :=
  Ops.enterS hg hd (fun _ hr => run_callV ho hv (Fns.call hf) hr) hc (fun e w' ⟨v', he, h⟩ => by obtain ⟨rfl, rfl⟩ := h; exact ⟨he, rfl⟩) hk
/-- Rests and quotients. -/
theorem Ops.rem {o : Oper} {u v : Int} {d t t' : Nat} {x y : Operand} (ho : o.op = .binOp .rem t x y t') (hd : o.dst = some d) (hg : o.guard = none) (hx : ev ρ x = some (.int .i64 u)) (hy : ev ρ y = some (.int .i64 v)) (hv : v ≠ 0)
    (hk : Ops md P n ds all k Φ l ((d, .int .i64 (u.tmod v)) :: ρ) w) : Ops md P n ds all k Φ (o :: l) ρ w := by
  refine Ops.valS hd hg (fun a hr => ?_) hk
  simp only [execOp, ho, hr.ev hx, hr.ev hy]
  simp [eqGuard, binOp, Op.intDiv, hv, go_sem]
/-- A struct of two fields of one cell. -/
theorem Ops.bld2 {o : Oper} {d t : Nat} {x y : Operand} {u v z0 z1 : Value} (ho : o.op = .build t #[(0, x), (1, y)]) (hd : o.dst = some d) (hg : o.guard = none)
    (ht : tyD P t = some (.struct [(0, 1), (1, 1)])) (hz : tyZ P t = some (.agg #[z0, z1])) (hx : ev ρ x = some u) (hy : ev ρ y = some v) (h1 : u.oneCell' = true) (h2 : v.oneCell' = true)
    (hk : Ops md P n ds all k Φ l ((d, .agg #[u, v]) :: ρ) w) : Ops md P n ds all k Φ (o :: l) ρ w := by
  refine Ops.valS hd hg (fun a hr => ?_) hk
  obtain ⟨gs, hu, hm⟩ := td_struct (tyD_ok ht)
  have hsz : ∃ f g, gs = #[f, g] ∧ f.offset = 0 ∧ g.offset = 1 ∧ ((P.info? f.type).map (·.size)).getD 0 = 1 ∧ ((P.info? g.type).map (·.size)).getD 0 = 1 := by
    obtain ⟨L⟩ := gs
    rcases L with _ | ⟨f, _ | ⟨g, _ | ⟨h, r⟩⟩⟩
    · simp at hm
    · simp at hm
    · simp at hm; exact ⟨f, g, rfl, hm.1.1, hm.2.1, hm.1.2, hm.2.2⟩
    · simp at hm
  obtain ⟨f, g, rfl, hf0, hg1, hfs, hgs⟩ := hsz
  have q1 : ∃ i, P.info? f.type = some i ∧ i.size = 1 := by
    cases hi : P.info? f.type with
    | none => rw [hi] at hfs; simp at hfs
    | some i => rw [hi] at hfs; exact ⟨i, rfl, by simpa using hfs⟩
  have q2 : ∃ i, P.info? g.type = some i ∧ i.size = 1 := by
    cases hi : P.info? g.type with
    | none => rw [hi] at hgs; simp at hgs
    | some i => rw [hi] at hgs; exact ⟨i, rfl, by simpa using hgs⟩
  obtain ⟨i1, e1, s1⟩ := q1
  obtain ⟨i2, e2, s2⟩ := q2
  have hcu : u.cells = #[u] := by cases u <;> simp_all [Value.oneCell', Value.cells]
  have hcv : v.cells = #[v] := by cases v <;> simp_all [Value.oneCell', Value.cells]
  have hcz : (Value.agg #[z0, z1]).cells = #[z0, z1] := rfl
  simp only [execOp, ho]
  simp [Instr.build, hr.ev hx, hr.ev hy, run_zeroV hz, run_und hu, sizeOf, typeInfo, e1, e2, s1, s2, hf0, hg1, Instr.fill, hcu, hcv, hcz]
/-! ### Slices -/
theorem tyE_ok {e sz by' : Nat} {z : Value} (hs : tyS P e = some sz) (hb : tyB P e = some by') (hz : tyZ P e = some z) : ∃ i, P.info? e = some i ∧ i.size = sz ∧ i.bytes = by' ∧ i.zero = some z := by
  unfold tyS at hs
  unfold tyB at hb
  unfold tyZ at hz
  cases hx : ty P e with
  | none => rw [hx] at hs; simp at hs
  | some u =>
    rw [hx] at hs hb hz
    simp at hs hb hz
    obtain ⟨_, i, hi, h1, h2, h3⟩ := ty_ok hx
    exact ⟨i, hi, h1.trans hs, h2.trans hb, by rw [h3, hz]⟩
theorem madeCells_one {z : Value} (h : z.cells = #[z]) (n : Nat) : (madeCells z.cells n).toList = List.replicate n z := by
  rw [h]
  apply List.ext_getElem
  · simp [madeCells]
  · intro i h1 h2
    simp [madeCells, Nat.mod_one]
/-- make([]T, n): n elements of zero. -/
theorem Ops.mkS {o : Oper} {d t e sz by' : Nat} {x y : Operand} {z : Value} {i : Int} (ho : o.op = .makeSlice t x y) (hd : o.dst = some d) (hg : o.guard = none)
    (ht : tyD P t = some (.slice e)) (hs : tyS P e = some sz) (hb : tyB P e = some (by' + 1)) (hz : tyZ P e = some z) (hx : ev ρ x = some (.int .i64 i)) (hy : ev ρ y = some (.int .i64 i)) (h0 : 0 ≤ i) (h1 : i.toNat * (by' + 1) ≤ 140737488355328)
    (hk : ∀ w' r, r = w.heap.size → Kp (fun _ => False) w w' → r < w'.heap.size → w'.ownsRow 0 e sz (.slice (some ⟨r, 0, none⟩) i.toNat i.toNat) i.toNat (madeCells z.cells (i.toNat * sz)).toList → Ops none P n ds all k Φ l ((d, .slice (some ⟨r, 0, none⟩) i.toNat i.toNat) :: ρ) w') : Ops none P n ds all k Φ (o :: l) ρ w := by
  obtain ⟨f, hi, h2, h3, h4⟩ := tyE_ok hs hb hz
  obtain ⟨m, rfl⟩ := Int.eq_ofNat_of_zero_le h0
  simp only [Int.toNat_natCast] at h1 hk
  have h5 : m ≤ m * (by' + 1) := Nat.le_mul_of_pos_right m (by omega)
  obtain ⟨w', hr, hown, hgr⟩ := run_make_full (P := P) w 0 t e f z sz (td_slice (tyD_ok ht)) hi h4 h2 .i64 .i64 m (by rw [h3, Nat.mul_comm]; omega) (by simp only [maxLen]; omega) (Nat.zero_le _)
  refine Ops.val hd hg (fun a hr' => ?_) (hk w' _ rfl ((Kp.of_grown hgr).mono (by simp)) (hown.lt _ rfl).2 hown)
  simp [execOp, ho, hr'.ev hx, hr'.ev hy, hr]
/-- A literal of one element of one cell. -/
theorem Ops.bs1 {o : Oper} {d t e : Nat} {x : Operand} {v z : Value} (ho : o.op = .buildSlice t 1 #[(0, x)]) (hd : o.dst = some d) (hg : o.guard = none)
    (ht : tyD P t = some (.slice e)) (hs : tyS P e = some 1) (hz : tyZ P e = some z) (hzs : z.cells.size = 1) (hx : ev ρ x = some v) (h1 : v.oneCell' = true)
    (hk : ∀ w' r, Mk w w' r (.cells #[v] e) → Ops none P n ds all k Φ l ((d, .slice (some ⟨r, 0, none⟩) 1 1) :: ρ) w') : Ops none P n ds all k Φ (o :: l) ρ w := by
  refine Ops.val hd hg (fun a hr => ?_) (hk _ _ (mk_alloc w _))
  have hcs : v.cells = #[v] := by cases v <;> simp_all [Value.oneCell', Value.cells]
  have hr1 : (Array.range 1 : Array Nat) = #[0] := by rfl
  simp [execOp, ho, Instr.buildSlice, hr.ev hx, run_und (td_slice (tyD_ok ht)), run_sizeOf hs, run_zeroV hz, hr1, Instr.fill, hcs, newRow, newObj, Sem.run]
theorem own_one {w w' : World} {r e : Nat} {v : Value} (h : Mk w w' r (.cells #[v] e)) : w'.ownsRow 0 e 1 (.slice (some ⟨r, 0, none⟩) 1 1) 1 [v] :=
  ⟨rfl, .inr ⟨r, 1, #[v], rfl, Nat.zero_le _, h.at_, Nat.le_refl _, by simp [maxLen], rfl, rfl⟩⟩
theorem own_nil (w : World) (e sz : Nat) : w.ownsRow 0 e sz (.slice none 0 0) 0 [] := World.ownsRow_nil w 0 e sz
/-- append. -/
theorem run_app {t ty' e sz by' : Nat} {v z : Value} {m c nn : Nat} {A : Addr} {xs news : List Value} (ht : tyD P t = some (.slice e)) (hs : tyS P e = some (sz + 1)) (hb : tyB P e = some (by' + 1)) (hz : tyZ P e = some z) (hzs : z.cells.size = sz + 1)
    (hown : w.ownsRow 0 e (sz + 1) v nn xs) (hl : news.length = m * (sz + 1)) (hnews : ∀ j u, news[j]? = some u → w.cell? (A.add j) = some u) (h1 : ∀ u ∈ news, u.oneCell' = true) (hbytes : (nn + m) * (by' + 1) ≤ 140737488355328) :
    ∃ v' w', (Builtin.append_ #[t, t] ty' #[v, .slice (some A) m c]).run P w = .ok v' w' ∧ w'.ownsRow 0 e (sz + 1) v' (nn + m) (xs ++ news) ∧ Kp (fun i => v.ownBlock = some i) w w' ∧ (∀ i, v'.ownBlock = some i → v.ownBlock = some i ∨ w.heap.size ≤ i) := by
  obtain ⟨f, hi, h2, h3, h4⟩ := tyE_ok hs hb hz
  have h5 : nn + m ≤ (nn + m) * (by' + 1) := Nat.le_mul_of_pos_right _ (by omega)
  obtain ⟨v', w', hr, ho', hg', hnil⟩ := run_append_own (P := P) w 0 t ty' e f z (sz + 1) (by' + 1) (td_slice (tyD_ok ht)) hi h4 h2 h3 hzs (by omega) v nn xs hown A m c news hl hnews h1 (by simp only [maxLen]; omega) hbytes (Nat.zero_le _)
  refine ⟨v', w', hr, ho', (Kp.of_grown hg').mono (fun i _ e => e.symm), fun i hi' => ?_⟩
  rcases hown.2 with ⟨rfl, rfl⟩ | ⟨g, cap, cur, rfl, hbg, hgg, hnc, hcm, hcs, htake⟩
  · by_cases hm : m = 0
    · have : v' = .slice none 0 0 := hnil.2 ⟨rfl, hm⟩
      subst this
      simp [Value.ownBlock] at hi'
    · have hr2 := run_append_nil (P := P) w t ty' e f z (td_slice (tyD_ok ht)) hi h4 A m c news (by rw [h2]; exact hl) hnews (by omega) (by omega) (by rw [h3]; simp only [Nat.zero_add] at hbytes; omega)
      rw [hr] at hr2
      simp only [Result.ok.injEq] at hr2
      rw [hr2.1] at hi'
      simp [Value.ownBlock] at hi'
      exact .inr (by omega)
  · by_cases hroom : nn + m ≤ cap
    · have hr2 := run_append_room (P := P) w t ty' e f (td_slice (tyD_ok ht)) hi g nn cap cur hgg A m c news (by rw [h2]; exact hl) hnews h1 hroom (by rw [h2, hl, hcs, ← Nat.add_mul]; exact Nat.mul_le_mul_right _ hroom)
      rw [hr] at hr2
      simp only [Result.ok.injEq] at hr2
      rw [hr2.1] at hi'
      exact .inl hi'
    · have hr2 := run_append_grow (P := P) w t ty' e f z (td_slice (tyD_ok ht)) hi h4 ⟨g, 0, none⟩ nn cap xs (by rw [h2]; exact hown.1) (hown.cells (g := g) rfl) A m c news (by rw [h2]; exact hl) hnews (by omega) (by omega) (by rw [h3]; exact growslice_fits (by omega) hbytes)
      rw [hr] at hr2
      simp only [Result.ok.injEq] at hr2
      rw [hr2.1] at hi'
      simp [Value.ownBlock] at hi'
      exact .inr (by omega)
theorem Ops.app {o : Oper} {d t e sz by' : Nat} {x y : Operand} {v z : Value} {m c nn : Nat} {A : Addr} {xs news : List Value} (ho : o.op = .call { callee := .builtin .append, args := #[x, y], argTypes := #[t, t] }) (hd : o.dst = some d) (hg : o.guard = none)
    (ht : tyD P t = some (.slice e)) (hs : tyS P e = some (sz + 1)) (hb : tyB P e = some (by' + 1)) (hz : tyZ P e = some z) (hzs : z.cells.size = sz + 1) (hx : ev ρ x = some v) (hy : ev ρ y = some (.slice (some A) m c))
    (hown : w.ownsRow 0 e (sz + 1) v nn xs) (hl : news.length = m * (sz + 1)) (hnews : ∀ j u, news[j]? = some u → w.cell? (A.add j) = some u) (h1 : ∀ u ∈ news, u.oneCell' = true) (hbytes : (nn + m) * (by' + 1) ≤ 140737488355328)
    (hk : ∀ v' w', w'.ownsRow 0 e (sz + 1) v' (nn + m) (xs ++ news) → Kp (fun i => v.ownBlock = some i) w w' → (∀ i, v'.ownBlock = some i → v.ownBlock = some i ∨ w.heap.size ≤ i) → Ops none P n ds all k Φ l ((d, v') :: ρ) w') : Ops none P n ds all k Φ (o :: l) ρ w := by
  obtain ⟨v', w', hr, h2, h3, h4⟩ := run_app (P := P) (w := w) (ty' := o.type) (c := c) ht hs hb hz hzs hown hl hnews h1 hbytes
  refine Ops.val hd hg (fun a hr' => ?_) (hk v' w' h2 h3 h4)
  simp [execOp, ho, resolve, invoke, builtin, hr'.ev hx, hr'.ev hy, hr]
end
end Go.Proofs.YtcmjlmnfdncajaaGreatDoor.VW
/- The begin and the end of a function; regions whose order is drawn. -/
namespace Go.Proofs.YtcmjlmnfdncajaaGreatDoor.VW
open Go Go.RowKit
def argE : List Value → Nat → E
  | [], _ => []
  | v :: r, i => (i, v) :: argE r (i + 1)
theorem look_argE : ∀ (l : List Value) (i t : Nat) (v : Value), look (argE l i) t = some v → i ≤ t ∧ l[t - i]? = some v
  | [], _, _, _, h => by simp [argE, look] at h
  | u :: r, i, t, v, h => by
    simp only [argE, look] at h
    cases hb : Nat.beq i t with
    | true =>
      rw [hb] at h
      have := Nat.eq_of_beq_eq_true hb
      subst this
      simp at h
      simp [h]
    | false =>
      rw [hb] at h
      have hne := Nat.ne_of_beq_eq_false hb
      obtain ⟨h1, h2⟩ := look_argE r (i + 1) t v h
      refine ⟨by omega, ?_⟩
      obtain ⟨m, rfl⟩ : ∃ m, t = i + 1 + m := ⟨t - (i + 1), by omega⟩
      rw [show i + 1 + m - i = m + 1 by omega]
      rw [show i + 1 + m - (i + 1) = m by omega] at h2
      simpa using h2
def resT : List ResultVar → E → Option (List Value)
  | [], _ => some []
  | .tmp t :: r, ρ => match look ρ t, resT r ρ with
    | some v, some vs => some (v :: vs)
    | _, _ => none
  | .cell _ _ :: _, _ => none
def resV : List Value → Value
  | [v] => v
  | vs => .tuple vs.toArray
/-- How a function ends whose results are slots. -/
def Fin (P : Program) (fn : Func) (R : Value → World → Prop) : Post := fun e ρ w => match e with
  | .ret => ∃ v, (∀ a, Rep fn.ntmps a ρ → (results fn a.tmps).run P w = .ok v w) ∧ R v w
  | .normal => ∃ v, (∀ a, Rep fn.ntmps a ρ → (results fn a.tmps).run P w = .ok v w) ∧ R v w
  | _ => False
theorem run_mapM {P : Program} {w : World} {n : Nat} {a : Act} {ρ : E} (hr : Rep n a ρ) : ∀ {l : List ResultVar} {vs : List Value}, resT l ρ = some vs →
    (l.mapM (m := Sem) fun | .tmp t => pure (a.tmps.getD t undef) | .cell b t => do loadVar t (← asAddr (a.tmps.getD b undef))).run P w = .ok vs w
  | [], vs, h => by simp [resT] at h; subst h; simp [Sem.run]
  | .tmp t :: r, vs, h => by
    simp only [resT] at h
    split at h
    · rename_i v us h1 h2
      simp at h
      subst h
      have ih := run_mapM (P := P) (w := w) hr h2
      rw [List.mapM_cons]
      simp only [Sem.run_bind, Sem.run_pure, Result.andThen_ok, ih, hr.slot t v h1]
    · simp at h
  | .cell _ _ :: _, _, h => by simp [resT] at h
theorem run_results {P : Program} {w : World} {fn : Func} {a : Act} {ρ : E} {vs : List Value} (hr : Rep fn.ntmps a ρ) (h : resT fn.results.toList ρ = some vs) : (results fn a.tmps).run P w = .ok (resV vs) w := by
  have := run_mapM (P := P) (w := w) hr h
  unfold results
  rw [Array.mapM_eq_mapM_toList]
  have e : (List.toArray <$> fn.results.toList.mapM (m := Sem) fun | .tmp t => pure (a.tmps.getD t undef) | .cell b t => do loadVar t (← asAddr (a.tmps.getD b undef))).run P w = .ok vs.toArray w := by
    rw [← bind_pure_comp]
    simp only [Sem.run_bind, this, Result.andThen_ok, Function.comp, Sem.run_pure]
  rw [Sem.run_bind]
  refine (congrArg (fun r => Result.andThen r _) e).trans ?_
  clear e this h
  match vs with
  | [] => rfl
  | [v] => rfl
  | v :: u :: r => rfl
theorem W.fret {P : Program} {ds : List Deferred} {k : List It} {ρ : E} {w : World} {fn : Func} {R : Value → World → Prop} {vs : List Value}
    (h : resT fn.results.toList ρ = some vs) (hR : R (resV vs) w) : W P fn.ntmps ds (.code .ret :: k) (Fin P fn R) ρ w :=
  W.ret ⟨_, fun _ hr => run_results hr h, hR⟩
theorem W.fend {P : Program} {ds : List Deferred} {ρ : E} {w : World} {fn : Func} {R : Value → World → Prop} {vs : List Value}
    (h : resT fn.results.toList ρ = some vs) (hR : R (resV vs) w) : W P fn.ntmps ds [] (Fin P fn R) ρ w :=
  ⟨_, fun _ hr => run_results hr h, hR⟩
/-- A call, from its first instruction on. -/
theorem calls_W {P : Program} {f : FuncId} {fn : Func} {c : Code} {vs : List Value} {w : World} {R : Value → World → Prop}
    (hf : P.funcs[f]? = some fn) (hb : fn.body = some c) (hin : inB fn.ntmps c = true) (hs : Nat.ble vs.length fn.ntmps = true)
    (h : W P fn.ntmps [] [.code c] (Fin P fn R) (argE vs 0) w) : Calls P f vs.toArray w (Ret R) := by
  have hs' : vs.length ≤ fn.ntmps := Nat.le_of_ble_eq_true hs
  refine callsIn_wide.1 (callsIn_of_wp_marks (F := Fence.wide) (n := 0) hf hb trivial (wpIn_wide.2 ?_))
  have hrep : Rep fn.ntmps { tmps := vs.toArray ++ Array.replicate (fn.ntmps - vs.toArray.size) undef, defers := [] } (argE vs 0) := by
    refine ⟨by simp; omega, fun t v hl => ?_⟩
    obtain ⟨_, h2⟩ := look_argE vs 0 t v hl
    have ht : t < vs.length := by
      rw [Nat.sub_zero] at h2
      exact (List.getElem?_eq_some_iff.1 h2).1
    rw [Nat.sub_zero] at h2
    simp [Array.getD_eq_getD_getElem?, Array.getElem?_append, ht, h2]
    rw [List.getElem?_eq_getElem ht] at h2
    simpa using h2
  refine wp_mono (h hin _ hrep rfl) fun e a w' hl => ?_
  obtain ⟨ρ', hr', hl⟩ := hl
  cases e with
  | normal =>
    obtain ⟨hd', hq⟩ := hl
    obtain ⟨v, hv, hR⟩ : ∃ v, (∀ a, Rep fn.ntmps a ρ' → (results fn a.tmps).run P w' = .ok v w') ∧ R v w' := hq
    show LeavesInM _ _ P fn a.tmps _ a.defers .returning w'
    rw [hd']
    exact ⟨v, hv a hr', v, rfl, hR⟩
  | ret =>
    show LeavesInM _ _ P fn a.tmps _ a.defers .returning w'
    obtain ⟨w2, hm, hq⟩ := hl
    obtain ⟨v, hv, hR⟩ : ∃ v, (∀ a, Rep fn.ntmps a ρ' → (results fn a.tmps).run P w2 = .ok v w2) ∧ R v w2 := hq
    have key : ∀ {d ds : List Deferred} {w w2 : World}, Marks d ds w w2 → LeavesInM Fence.wide 0 P fn a.tmps (Ret R) ds .returning w2 → LeavesInM Fence.wide 0 P fn a.tmps (Ret R) d .returning w := by
      intro d ds w w2 h
      induction h with
      | nil => exact id
      | cons h _ ih => exact fun k => ⟨by simp, .inl ⟨_, _, rfl, run_takeDeferred h, ih k⟩⟩
    exact key hm ⟨v, hv a hr', v, rfl, hR⟩
  | _ => exact hl.2.elim
end Go.Proofs.YtcmjlmnfdncajaaGreatDoor.VW
namespace Go.Proofs.YtcmjlmnfdncajaaGreatDoor
open Go Go.RowKit Go.Proofs.YtcmjlmnfdncajaaGreatDoor.VW
instance : Tab Tryz.prog where
  T := [⟨2, .int .i64, 1, 8, (.int .i64 0)⟩,
    ⟨3, .int .i64, 1, 8, (.int .i64 0)⟩,
    ⟨4, .bool, 1, 1, (.bool false)⟩,
    ⟨5, .int .u8, 1, 1, (.int .u8 0)⟩,
    ⟨6, .int .u8, 1, 1, (.int .u8 0)⟩,
    ⟨7, .struct [(0, 1), (1, 1), (2, 1), (3, 1)], 4, 24, (.agg #[(.int .i64 0), (.int .i64 0), (.bool false), (.int .u8 0)])⟩,
    ⟨8, .struct [(0, 1), (1, 1), (2, 1), (3, 1)], 4, 24, (.agg #[(.int .i64 0), (.int .i64 0), (.bool false), (.int .u8 0)])⟩,
    ⟨9, .string, 1, 16, (.string ByteArray.empty)⟩,
    ⟨10, .string, 1, 16, (.string ByteArray.empty)⟩,
    ⟨11, .string, 1, 16, (.string ByteArray.empty)⟩,
    ⟨12, .int .u64, 1, 8, (.int .u64 0)⟩,
    ⟨13, .struct [(0, 1), (1, 1)], 2, 24, (.agg #[(.string ByteArray.empty), (.int .u64 0)])⟩,
    ⟨14, .struct [(0, 1), (1, 1)], 2, 24, (.agg #[(.string ByteArray.empty), (.int .u64 0)])⟩,
    ⟨15, .pointer 213, 1, 8, (.pointer none)⟩,
    ⟨16, .pointer 216, 1, 8, (.pointer none)⟩,
    ⟨17, .pointer 223, 1, 8, (.pointer none)⟩,
    ⟨18, .struct [(0, 1)], 1, 8, (.agg #[(.pointer none)])⟩,
    ⟨19, .struct [(0, 1)], 1, 8, (.agg #[(.pointer none)])⟩,
    ⟨20, .iface, 1, 16, .nilIface⟩,
    ⟨21, .int .i32, 1, 4, (.int .i32 0)⟩,
    ⟨24, .slice 9, 1, 24, (.slice none 0 0)⟩,
    ⟨25, .int .i64, 1, 8, (.int .i64 0)⟩,
    ⟨28, .slice 3, 1, 24, (.slice none 0 0)⟩,
    ⟨33, .array 3 9, 3, 48, (.agg #[(.string ByteArray.empty), (.string ByteArray.empty), (.string ByteArray.empty)])⟩,
    ⟨42, .slice 100, 1, 24, (.slice none 0 0)⟩,
    ⟨49, .slice 42, 1, 24, (.slice none 0 0)⟩,
    ⟨81, .int .u64, 1, 8, (.int .u64 0)⟩,
    ⟨83, .slice 119, 1, 24, (.slice none 0 0)⟩,
    ⟨84, .slice 119, 1, 24, (.slice none 0 0)⟩,
    ⟨99, .struct [(0, 1), (1, 1)], 2, 32, (.agg #[(.slice none 0 0), (.int .i64 0)])⟩,
    ⟨100, .struct [(0, 1), (1, 1)], 2, 32, (.agg #[(.slice none 0 0), (.int .i64 0)])⟩,
    ⟨103, .slice 104, 1, 24, (.slice none 0 0)⟩,
    ⟨104, .slice 104, 1, 24, (.slice none 0 0)⟩,
    ⟨111, .struct [(0, 1)], 1, 8, (.agg #[(.int .i64 0)])⟩,
    ⟨112, .struct [(0, 1)], 1, 8, (.agg #[(.int .i64 0)])⟩,
    ⟨113, .pointer 115, 1, 8, (.pointer none)⟩,
    ⟨114, .struct [(0, 1), (1, 1)], 2, 24, (.agg #[(.string ByteArray.empty), (.int .i64 0)])⟩,
    ⟨115, .struct [(0, 1), (1, 1)], 2, 24, (.agg #[(.string ByteArray.empty), (.int .i64 0)])⟩,
    ⟨118, .struct [(0, 1), (1, 1)], 2, 32, (.agg #[(.slice none 0 0), (.int .i64 0)])⟩,
    ⟨119, .struct [(0, 1), (1, 1)], 2, 32, (.agg #[(.slice none 0 0), (.int .i64 0)])⟩,
    ⟨125, .slice 5, 1, 24, (.slice none 0 0)⟩,
    ⟨127, .iface, 1, 16, .nilIface⟩,
    ⟨128, .iface, 1, 16, .nilIface⟩,
    ⟨135, .pointer 137, 1, 8, (.pointer none)⟩,
    ⟨136, .struct [(0, 1), (1, 1)], 2, 32, (.agg #[(.pointer none), (.slice none 0 0)])⟩,
    ⟨137, .struct [(0, 1), (1, 1)], 2, 32, (.agg #[(.pointer none), (.slice none 0 0)])⟩,
    ⟨139, .iface, 1, 16, .nilIface⟩,
    ⟨140, .iface, 1, 16, .nilIface⟩,
    ⟨149, .slice 84, 1, 24, (.slice none 0 0)⟩,
    ⟨153, .pointer 5, 1, 8, (.pointer none)⟩,
    ⟨154, .int .u32, 1, 4, (.int .u32 0)⟩,
    ⟨157, .int .u64, 1, 8, (.int .u64 0)⟩,
    ⟨166, .pointer 162, 1, 8, (.pointer none)⟩,
    ⟨168, .array 24 5, 24, 24, (.agg #[(.int .u8 0), (.int .u8 0), (.int .u8 0), (.int .u8 0), (.int .u8 0), (.int .u8 0), (.int .u8 0), (.int .u8 0), (.int .u8 0), (.int .u8 0), (.int .u8 0), (.int .u8 0), (.int .u8 0), (.int .u8 0), (.int .u8 0), (.int .u8 0), (.int .u8 0), (.int .u8 0), (.int .u8 0), (.int .u8 0), (.int .u8 0), (.int .u8 0), (.int .u8 0), (.int .u8 0)])⟩,
    ⟨181, .int .i64, 1, 8, (.int .i64 0)⟩,
    ⟨184, .pointer 196, 1, 8, (.pointer none)⟩,
    ⟨189, .array 20 157, 20, 160, (.agg #[(.int .u64 0), (.int .u64 0), (.int .u64 0), (.int .u64 0), (.int .u64 0), (.int .u64 0), (.int .u64 0), (.int .u64 0), (.int .u64 0), (.int .u64 0), (.int .u64 0), (.int .u64 0), (.int .u64 0), (.int .u64 0), (.int .u64 0), (.int .u64 0), (.int .u64 0), (.int .u64 0), (.int .u64 0), (.int .u64 0)])⟩,
    ⟨195, .struct [(0, 1), (1, 1), (2, 1)], 3, 48, (.agg #[(.string ByteArray.empty), (.string ByteArray.empty), .nilIface])⟩,
    ⟨196, .struct [(0, 1), (1, 1), (2, 1)], 3, 48, (.agg #[(.string ByteArray.empty), (.string ByteArray.empty), .nilIface])⟩,
    ⟨200, .struct [(0, 1), (1, 1)], 2, 2, (.agg #[(.int .u8 0), (.int .u8 0)])⟩,
    ⟨201, .struct [(0, 1), (1, 1)], 2, 2, (.agg #[(.int .u8 0), (.int .u8 0)])⟩,
    ⟨202, .array 16 201, 32, 32, (.agg #[(.int .u8 0), (.int .u8 0), (.int .u8 0), (.int .u8 0), (.int .u8 0), (.int .u8 0), (.int .u8 0), (.int .u8 0), (.int .u8 0), (.int .u8 0), (.int .u8 0), (.int .u8 0), (.int .u8 0), (.int .u8 0), (.int .u8 0), (.int .u8 0), (.int .u8 0), (.int .u8 0), (.int .u8 0), (.int .u8 0), (.int .u8 0), (.int .u8 0), (.int .u8 0), (.int .u8 0), (.int .u8 0), (.int .u8 0), (.int .u8 0), (.int .u8 0), (.int .u8 0), (.int .u8 0), (.int .u8 0), (.int .u8 0)])⟩,
    ⟨207, .pointer 209, 1, 8, (.pointer none)⟩,
    ⟨208, .struct [(0, 1)], 1, 16, (.agg #[(.string ByteArray.empty)])⟩,
    ⟨209, .struct [(0, 1)], 1, 16, (.agg #[(.string ByteArray.empty)])⟩,
    ⟨210, .array 32 5, 32, 32, (.agg #[(.int .u8 0), (.int .u8 0), (.int .u8 0), (.int .u8 0), (.int .u8 0), (.int .u8 0), (.int .u8 0), (.int .u8 0), (.int .u8 0), (.int .u8 0), (.int .u8 0), (.int .u8 0), (.int .u8 0), (.int .u8 0), (.int .u8 0), (.int .u8 0), (.int .u8 0), (.int .u8 0), (.int .u8 0), (.int .u8 0), (.int .u8 0), (.int .u8 0), (.int .u8 0), (.int .u8 0), (.int .u8 0), (.int .u8 0), (.int .u8 0), (.int .u8 0), (.int .u8 0), (.int .u8 0), (.int .u8 0), (.int .u8 0)])⟩,
    ⟨211, .array 64 5, 64, 64, (.agg #[(.int .u8 0), (.int .u8 0), (.int .u8 0), (.int .u8 0), (.int .u8 0), (.int .u8 0), (.int .u8 0), (.int .u8 0), (.int .u8 0), (.int .u8 0), (.int .u8 0), (.int .u8 0), (.int .u8 0), (.int .u8 0), (.int .u8 0), (.int .u8 0), (.int .u8 0), (.int .u8 0), (.int .u8 0), (.int .u8 0), (.int .u8 0), (.int .u8 0), (.int .u8 0), (.int .u8 0), (.int .u8 0), (.int .u8 0), (.int .u8 0), (.int .u8 0), (.int .u8 0), (.int .u8 0), (.int .u8 0), (.int .u8 0), (.int .u8 0), (.int .u8 0), (.int .u8 0), (.int .u8 0), (.int .u8 0), (.int .u8 0), (.int .u8 0), (.int .u8 0), (.int .u8 0), (.int .u8 0), (.int .u8 0), (.int .u8 0), (.int .u8 0), (.int .u8 0), (.int .u8 0), (.int .u8 0), (.int .u8 0), (.int .u8 0), (.int .u8 0), (.int .u8 0), (.int .u8 0), (.int .u8 0), (.int .u8 0), (.int .u8 0), (.int .u8 0), (.int .u8 0), (.int .u8 0), (.int .u8 0), (.int .u8 0), (.int .u8 0), (.int .u8 0), (.int .u8 0)])⟩,
    ⟨212, .struct [(0, 1), (1, 1), (2, 1), (3, 1)], 4, 40, (.agg #[(.pointer none), (.pointer none), (.pointer none), (.string ByteArray.empty)])⟩,
    ⟨213, .struct [(0, 1), (1, 1), (2, 1), (3, 1)], 4, 40, (.agg #[(.pointer none), (.pointer none), (.pointer none), (.string ByteArray.empty)])⟩,
    ⟨214, .array 0 16, 0, 0, (.agg #[])⟩,
    ⟨215, .struct [(0, 0)], 0, 0, (.agg #[])⟩,
    ⟨216, .struct [(0, 0)], 0, 0, (.agg #[])⟩,
    ⟨217, .int .u8, 1, 1, (.int .u8 0)⟩,
    ⟨218, .int .u8, 1, 1, (.int .u8 0)⟩,
    ⟨220, .int .i32, 1, 4, (.int .i32 0)⟩,
    ⟨221, .int .i32, 1, 4, (.int .i32 0)⟩,
    ⟨222, .struct [(0, 1), (1, 1), (2, 1), (3, 1), (4, 1), (5, 1), (6, 1), (7, 1), (8, 1), (9, 1), (10, 1)], 11, 48, (.agg #[(.int .u64 0), (.int .u64 0), (.int .u32 0), (.int .u8 0), (.int .u8 0), (.int .u8 0), (.int .u8 0), .nilFunc, (.pointer none), (.int .i32 0), (.int .i32 0)])⟩,
    ⟨223, .struct [(0, 1), (1, 1), (2, 1), (3, 1), (4, 1), (5, 1), (6, 1), (7, 1), (8, 1), (9, 1), (10, 1)], 11, 48, (.agg #[(.int .u64 0), (.int .u64 0), (.int .u32 0), (.int .u8 0), (.int .u8 0), (.int .u8 0), (.int .u8 0), .nilFunc, (.pointer none), (.int .i32 0), (.int .i32 0)])⟩,
    ⟨1, .func, 1, 8, .nilFunc⟩,
    ⟨22, .func, 1, 8, .nilFunc⟩,
    ⟨23, .func, 1, 8, .nilFunc⟩,
    ⟨27, .func, 1, 8, .nilFunc⟩,
    ⟨30, .func, 1, 8, .nilFunc⟩,
    ⟨31, .func, 1, 8, .nilFunc⟩,
    ⟨32, .func, 1, 8, .nilFunc⟩,
    ⟨35, .func, 1, 8, .nilFunc⟩,
    ⟨37, .func, 1, 8, .nilFunc⟩,
    ⟨38, .func, 1, 8, .nilFunc⟩,
    ⟨39, .func, 1, 8, .nilFunc⟩,
    ⟨40, .func, 1, 8, .nilFunc⟩,
    ⟨41, .func, 1, 8, .nilFunc⟩,
    ⟨44, .func, 1, 8, .nilFunc⟩,
    ⟨45, .func, 1, 8, .nilFunc⟩,
    ⟨46, .func, 1, 8, .nilFunc⟩,
    ⟨47, .func, 1, 8, .nilFunc⟩,
    ⟨48, .func, 1, 8, .nilFunc⟩,
    ⟨51, .func, 1, 8, .nilFunc⟩,
    ⟨52, .func, 1, 8, .nilFunc⟩,
    ⟨53, .func, 1, 8, .nilFunc⟩,
    ⟨54, .func, 1, 8, .nilFunc⟩,
    ⟨56, .func, 1, 8, .nilFunc⟩,
    ⟨57, .func, 1, 8, .nilFunc⟩,
    ⟨58, .func, 1, 8, .nilFunc⟩,
    ⟨59, .func, 1, 8, .nilFunc⟩,
    ⟨61, .func, 1, 8, .nilFunc⟩,
    ⟨63, .func, 1, 8, .nilFunc⟩,
    ⟨64, .func, 1, 8, .nilFunc⟩,
    ⟨65, .func, 1, 8, .nilFunc⟩,
    ⟨66, .func, 1, 8, .nilFunc⟩,
    ⟨67, .func, 1, 8, .nilFunc⟩,
    ⟨68, .func, 1, 8, .nilFunc⟩,
    ⟨69, .func, 1, 8, .nilFunc⟩,
    ⟨70, .func, 1, 8, .nilFunc⟩,
    ⟨72, .func, 1, 8, .nilFunc⟩,
    ⟨73, .func, 1, 8, .nilFunc⟩,
    ⟨74, .func, 1, 8, .nilFunc⟩,
    ⟨75, .func, 1, 8, .nilFunc⟩,
    ⟨76, .func, 1, 8, .nilFunc⟩,
    ⟨77, .func, 1, 8, .nilFunc⟩,
    ⟨78, .func, 1, 8, .nilFunc⟩,
    ⟨80, .func, 1, 8, .nilFunc⟩,
    ⟨82, .func, 1, 8, .nilFunc⟩,
    ⟨85, .func, 1, 8, .nilFunc⟩,
    ⟨86, .func, 1, 8, .nilFunc⟩,
    ⟨87, .func, 1, 8, .nilFunc⟩,
    ⟨88, .func, 1, 8, .nilFunc⟩,
    ⟨89, .func, 1, 8, .nilFunc⟩,
    ⟨90, .func, 1, 8, .nilFunc⟩,
    ⟨91, .func, 1, 8, .nilFunc⟩,
    ⟨92, .func, 1, 8, .nilFunc⟩,
    ⟨93, .func, 1, 8, .nilFunc⟩,
    ⟨94, .func, 1, 8, .nilFunc⟩,
    ⟨95, .func, 1, 8, .nilFunc⟩,
    ⟨96, .func, 1, 8, .nilFunc⟩,
    ⟨97, .func, 1, 8, .nilFunc⟩,
    ⟨98, .func, 1, 8, .nilFunc⟩,
    ⟨101, .func, 1, 8, .nilFunc⟩,
    ⟨102, .func, 1, 8, .nilFunc⟩,
    ⟨105, .func, 1, 8, .nilFunc⟩,
    ⟨106, .func, 1, 8, .nilFunc⟩,
    ⟨107, .func, 1, 8, .nilFunc⟩,
    ⟨109, .func, 1, 8, .nilFunc⟩,
    ⟨110, .func, 1, 8, .nilFunc⟩,
    ⟨116, .func, 1, 8, .nilFunc⟩,
    ⟨117, .func, 1, 8, .nilFunc⟩,
    ⟨120, .func, 1, 8, .nilFunc⟩,
    ⟨121, .func, 1, 8, .nilFunc⟩,
    ⟨122, .func, 1, 8, .nilFunc⟩,
    ⟨123, .func, 1, 8, .nilFunc⟩,
    ⟨124, .func, 1, 8, .nilFunc⟩,
    ⟨126, .func, 1, 8, .nilFunc⟩,
    ⟨129, .func, 1, 8, .nilFunc⟩,
    ⟨130, .func, 1, 8, .nilFunc⟩,
    ⟨131, .func, 1, 8, .nilFunc⟩,
    ⟨132, .func, 1, 8, .nilFunc⟩,
    ⟨133, .func, 1, 8, .nilFunc⟩,
    ⟨134, .func, 1, 8, .nilFunc⟩,
    ⟨138, .func, 1, 8, .nilFunc⟩,
    ⟨142, .func, 1, 8, .nilFunc⟩,
    ⟨143, .func, 1, 8, .nilFunc⟩,
    ⟨144, .func, 1, 8, .nilFunc⟩,
    ⟨145, .func, 1, 8, .nilFunc⟩,
    ⟨146, .func, 1, 8, .nilFunc⟩,
    ⟨148, .func, 1, 8, .nilFunc⟩,
    ⟨150, .func, 1, 8, .nilFunc⟩,
    ⟨151, .func, 1, 8, .nilFunc⟩,
    ⟨152, .func, 1, 8, .nilFunc⟩,
    ⟨156, .func, 1, 8, .nilFunc⟩,
    ⟨159, .func, 1, 8, .nilFunc⟩,
    ⟨160, .func, 1, 8, .nilFunc⟩,
    ⟨164, .func, 1, 8, .nilFunc⟩,
    ⟨165, .func, 1, 8, .nilFunc⟩,
    ⟨167, .func, 1, 8, .nilFunc⟩,
    ⟨169, .func, 1, 8, .nilFunc⟩,
    ⟨170, .func, 1, 8, .nilFunc⟩,
    ⟨172, .func, 1, 8, .nilFunc⟩,
    ⟨174, .func, 1, 8, .nilFunc⟩,
    ⟨175, .func, 1, 8, .nilFunc⟩,
    ⟨176, .func, 1, 8, .nilFunc⟩,
    ⟨177, .func, 1, 8, .nilFunc⟩,
    ⟨179, .func, 1, 8, .nilFunc⟩,
    ⟨180, .func, 1, 8, .nilFunc⟩,
    ⟨183, .func, 1, 8, .nilFunc⟩,
    ⟨185, .func, 1, 8, .nilFunc⟩,
    ⟨186, .func, 1, 8, .nilFunc⟩,
    ⟨187, .func, 1, 8, .nilFunc⟩,
    ⟨188, .func, 1, 8, .nilFunc⟩,
    ⟨191, .func, 1, 8, .nilFunc⟩,
    ⟨192, .func, 1, 8, .nilFunc⟩,
    ⟨194, .func, 1, 8, .nilFunc⟩,
    ⟨197, .func, 1, 8, .nilFunc⟩,
    ⟨198, .func, 1, 8, .nilFunc⟩,
    ⟨203, .func, 1, 8, .nilFunc⟩,
    ⟨204, .func, 1, 8, .nilFunc⟩,
    ⟨205, .func, 1, 8, .nilFunc⟩,
    ⟨206, .func, 1, 8, .nilFunc⟩,
    ⟨219, .func, 1, 8, .nilFunc⟩]
  ok := by kernel_rfl
instance : Fns Tryz.prog where
  L := [2, 3, 4, 5, 6, 7, 8, 9, 10, 11, 12, 13, 14, 15, 16, 17, 18, 19, 20, 21, 22, 23, 24, 25, 26, 27, 28, 29, 30, 31, 32, 33, 34, 35, 36, 37, 38, 39, 40, 41, 42, 43, 44, 45, 46, 47, 48, 49, 50, 51, 52, 53, 54, 55, 56, 57, 58, 59, 60, 61, 62, 63, 64, 65, 66, 67, 68, 69, 70, 71, 72, 73, 74, 75, 76, 77, 78, 79, 80, 81, 82, 83, 84, 85, 86, 87, 88, 89, 90, 91, 92, 93, 94, 95, 96, 97, 98, 99, 100, 101, 102, 103, 104, 105, 106, 107, 108, 109, 110, 111, 112, 113, 114, 115, 116, 117, 118, 119, 120, 121, 122, 123, 124, 125, 126, 127, 129, 130, 131, 132, 133, 134, 135, 136, 137, 138, 139, 140, 141, 142, 143, 144, 145, 146, 147, 148, 149, 150, 151, 152, 155, 156, 157, 158, 159, 160, 161, 162, 163, 164, 165, 166, 167, 168, 169, 170, 171, 172, 173, 174, 175, 176, 177, 178, 180, 181, 182, 213]
  ok := by kernel_rfl
end Go.Proofs.YtcmjlmnfdncajaaGreatDoor
/- Slices that read as lists; joins; guards. -/
namespace Go.Proofs.YtcmjlmnfdncajaaGreatDoor.VW
open Go Go.RowKit
theorem ev_top (d : Nat) (v : Value) (ρ : E) : ev ((d, v) :: ρ) (.tmp d) = some v := by simp [ev, look]
theorem World.block_of_cell {w : World} {a : Addr} {v : Value} (h : w.cell? a = some v) : a.block < w.heap.size := World.block_lt_of_cell? w a h
theorem add_block (a : Addr) (j : Nat) : (a.add j).block = a.block := by unfold Addr.add; split <;> rfl
/-- v is a slice that reads as xs. -/
def Sl {α : Type} (enc : α → Value) (z : α) (w : World) (v : Value) (xs : List α) : Prop :=
  xs.length ≤ 9223372036854775807 ∧ ∃ A c, v = .slice A xs.length c ∧ (0 < xs.length → ∃ a, A = some a ∧ ∀ j, j < xs.length → w.cell? (a.add j) = some (enc (xs.getD j z)))
abbrev SlI (w : World) (v : Value) (xs : List Int) : Prop := Sl (Value.int .i64) 0 w v xs
abbrev SlB (w : World) (v : Value) (xs : List Bool) : Prop := Sl Value.bool false w v xs
theorem Sl.kp {α : Type} {enc : α → Value} {z : α} {w w' : World} {v : Value} {xs : List α} {S : Nat → Prop} (h : Sl enc z w v xs) (k : Kp S w w') (hs : ∀ i, v.ownBlock = some i → ¬ S i) : Sl enc z w' v xs := by
  obtain ⟨hm, A, c, rfl, h⟩ := h
  refine ⟨hm, A, c, rfl, fun hp => ?_⟩
  obtain ⟨a, rfl, hc⟩ := h hp
  exact ⟨a, rfl, fun j hj => cell_kp k (hc j hj) (by rw [add_block]; exact hs _ rfl)⟩
theorem Sl.below {α : Type} {enc : α → Value} {z : α} {w w' : World} {v : Value} {xs : List α} (h : Sl enc z w v xs) (k : Below w.heap.size w w') : Sl enc z w' v xs := h.kp (Kp.of_below (S := fun _ => False) k) (fun _ _ e => e)
theorem Sl.lt {α : Type} {enc : α → Value} {z : α} {w : World} {v : Value} {xs : List α} (h : Sl enc z w v xs) (hp : 0 < xs.length) {i : Nat} (hi : v.ownBlock = some i) : i < w.heap.size := by
  obtain ⟨hm, A, c, rfl, h⟩ := h
  obtain ⟨a, rfl, hc⟩ := h hp
  have := World.block_of_cell (hc 0 hp)
  rw [add_block] at this
  simp [Value.ownBlock] at hi
  omega
theorem Sl.new {α : Type} {enc : α → Value} {z : α} {w w' : World} {v : Value} {xs : List α} {S : Nat → Prop} (h : Sl enc z w v xs) (k : Kp S w w') (hs : ∀ i, S i → w.heap.size ≤ i) : Sl enc z w' v xs := by
  obtain ⟨hm, A, c, rfl, h⟩ := h
  refine ⟨hm, A, c, rfl, fun hp => ?_⟩
  obtain ⟨a, rfl, hc⟩ := h hp
  exact ⟨a, rfl, fun j hj => cell_kp k (hc j hj) (fun e => by have := World.block_of_cell (hc j hj); have := hs _ e; omega)⟩
theorem Sl.len {α : Type} {enc : α → Value} {z : α} {w : World} {v : Value} {xs : List α} (h : Sl enc z w v xs) : xs.length ≤ 9223372036854775807 := h.1
theorem Sl.nil {α : Type} (enc : α → Value) (z : α) (w : World) (A : Option Addr) (c : Nat) : Sl enc z w (.slice A 0 c) [] := ⟨by simp, A, c, rfl, fun h => absurd h (by simp)⟩
theorem own_sl {α : Type} {enc : α → Value} {z : α} {w : World} {v : Value} {xs : List α} {e : Nat} (h : w.ownsRow 0 e 1 v xs.length (xs.map enc)) : Sl enc z w v xs := by
  rcases h.2 with ⟨rfl, h0⟩ | ⟨g, cap, cur, rfl, _, hg, hnc, hcm, hcs, ht⟩
  · exact ⟨by omega, none, 0, by rw [h0], fun hp => absurd hp (by omega)⟩
  · refine ⟨by simp only [maxLen] at hcm; omega, some ⟨g, 0, none⟩, cap, rfl, fun hp => ⟨_, rfl, fun j hj => ?_⟩⟩
    refine h.cells (g := g) rfl j _ ?_
    simp [hj, List.getD_eq_getElem?_getD]
section
variable {P : Program} [hT : Tab P] {n : Nat} {ds : List Deferred} {Φ : Post} {k : List It} {ρ : E} {w : World} {all : Array Oper} {l : List Oper} {md : Option (List Oper)}
omit hT in
theorem Qof.mono_lp {J J' : E → World → Prop} (h : ∀ ρ w, J ρ w → J' ρ w) (e : Exit) (ρ : E) (w : World) (hq : Qof P n ds Φ (.lp J :: k) e ρ w) : Qof P n ds Φ (.lp J' :: k) e ρ w := by
  cases e <;> first | exact h _ _ hq | exact hq
omit hT in
/-- A join: what is behind is shown once. -/
theorem W.cut {a b : Code} (J : E → World → Prop) (h1 : W P n ds (.code a :: .lp (fun ρ1 w1 => ∃ ρ2, J ρ2 w1 ∧ Sub ρ2 ρ1) :: k) Φ ρ w) (h2 : ∀ ρ w, J ρ w → W P n ds (.code b :: k) Φ ρ w) : W P n ds (.code a :: .code b :: k) Φ ρ w := by
  refine Wc.mono (fun e ρ1 w1 hq => ?_) h1
  cases e with
  | normal =>
    obtain ⟨ρ2, hj, hs⟩ : ∃ ρ2, J ρ2 w1 ∧ Sub ρ2 ρ1 := hq
    exact fun hi a hr hd => h2 ρ2 w1 hj hi a (hr.sub hs) hd
  | _ => exact hq
omit hT in
theorem upon_mono {o : Oper} {a : Act} {K K' : Act → World → Prop} {Q Q' : Exit → Act → World → Prop} (h : ∀ a w, K a w → K' a w) (hq : ∀ e a w, Q e a w → Q' e a w) {r : Result Next} (hh : o.upon P a K Q r) : o.upon P a K' Q' r := by
  cases r with
  | ok nx w' =>
    cases nx <;> simp only [Oper.upon] at hh ⊢
    case value v => exact h _ _ hh
    case skip => exact h _ _ hh
    case defer d => exact h _ _ hh
    case enter f args =>
      refine hh.mono fun e w'' he => ?_
      cases e with
      | returned v => exact h _ _ he
      | panicked ch => exact hq _ _ _ he
      | outgrown => obtain ⟨a, w, ho⟩ := he; exact ⟨a, w, hq _ _ _ ho⟩
    case row r args => exact hh.mono fun v w'' hv => h _ _ hv
  | halt x w' =>
    cases x <;> simp only [Oper.upon] at hh ⊢
    exact hq _ _ _ hh
omit hT in
theorem wpList_mono {ops : Array Oper} {Q Q' : Exit → Act → World → Prop} (hq : ∀ e a w, Q e a w → Q' e a w) : ∀ (l : List Oper) (a : Act) (w : World), wpList P ops Q l a w → wpList P ops Q' l a w
  | [], a, w, h => hq _ _ _ h
  | o :: r, a, w, h => by
    unfold wpList at h ⊢
    split
    · rename_i hw
      rw [if_pos hw] at h
      rcases h with h | ⟨h1, a', w', h2⟩
      · exact .inl (upon_mono (fun a w => wpList_mono hq r a w) hq h)
      · exact .inr ⟨h1, a', w', hq _ _ _ h2⟩
    · rename_i hw
      rw [if_neg hw] at h
      exact wpList_mono hq r _ _ h
omit hT in
theorem wpStill_mono {ops : Array Oper} {Q Q' : Act → Prop} (hq : ∀ a, Q a → Q' a) : ∀ (l : List Oper) (a : Act), wpStill P ops w Q l a → wpStill P ops w Q' l a
  | [], a, h => hq _ h
  | o :: r, a, h => by
    unfold wpStill at h ⊢
    split
    · rename_i hw
      rw [if_pos hw] at h
      exact Oper.still_mono (fun a => wpStill_mono hq r a) h
    · rename_i hw
      rw [if_neg hw] at h
      exact wpStill_mono hq r _ h
omit hT in
/-- A join behind the region that is being walked. -/
theorem Ops.cut (J : E → World → Prop) (h1 : Ops md P n ds all (.lp (fun ρ1 w1 => ∃ ρ2, J ρ2 w1 ∧ Sub ρ2 ρ1) :: k) Φ l ρ w) (h2 : ∀ ρ w, J ρ w → W P n ds k Φ ρ w) : Ops md P n ds all k Φ l ρ w := by
  intro hi a hr hd
  have hq : ∀ e a w, lift n ds (Qof P n ds Φ (.lp (fun ρ1 w1 => ∃ ρ2, J ρ2 w1 ∧ Sub ρ2 ρ1) :: k)) e a w → lift n ds (Qof P n ds Φ k) e a w := by
    rintro e a w ⟨ρ1, hr1, hl⟩
    cases e with
    | normal =>
      obtain ⟨hd1, hq⟩ := hl
      obtain ⟨ρ2, hj, hs⟩ : ∃ ρ2, J ρ2 w ∧ Sub ρ2 ρ1 := hq
      exact ⟨ρ2, hr1.sub hs, LiftD.mk hd1 (h2 ρ2 w hj)⟩
    | _ => exact ⟨ρ1, hr1, hl⟩
  have := h1 hi a hr hd
  cases md with
  | none => exact wpList_mono hq _ _ _ this
  | some tl => exact wpStill_mono (fun a => wpList_mono hq _ _ _) _ _ this
omit hT in
theorem kp_drew (w : World) : Kp (fun _ => False) w w.drew := ⟨rfl, rfl, rfl, Nat.le_refl _, fun _ _ _ => rfl⟩
omit hT in
theorem W.still' {id : Nat} (hm : P.follows .mixedOrders = true) (hB : Region.lexB .any l.toArray = true)
    (h : ∀ w', Kp (fun _ => False) w w' → w'.heap = w.heap → Ops (some []) P n ds l.toArray k Φ l ρ w') : W P n ds (.code (.region id l.toArray true) :: k) Φ ρ w := W.still hm hB (h _ (kp_drew w) rfl)
omit hT in
theorem W.tail' {id : Nat} (m : Nat) (hm : P.follows .mixedOrders = true) (hB : Region.lexTailB .any l.toArray m = true)
    (h : ∀ w', Kp (fun _ => False) w w' → w'.heap = w.heap → Ops (some (l.drop m)) P n ds l.toArray k Φ (l.take m) ρ w') : W P n ds (.code (.region id l.toArray true) :: k) Φ ρ w := W.tail m hm hB (h _ (kp_drew w) rfl)
/-- An element of a slice, read. -/
theorem Ops.rdS {α : Type} {enc : α → Value} {z : α} {o1 o2 : Oper} {d1 d2 t t' e : Nat} {x y : Operand} {v : Value} {i : Int} {xs : List α}
    (ho : o1.op = .indexAddr t x y) (hd1 : o1.dst = some d1) (hg1 : o1.guard = none) (ho2 : o2.op = .load t' (.tmp d1)) (hd2 : o2.dst = some d2) (hg2 : o2.guard = none)
    (ht : tyD P t = some (.slice e)) (hs : tyS P e = some 1) (ha : tyAgg P t' = some false) (hx : ev ρ x = some v) (hy : ev ρ y = some (.int .i64 i)) (hsl : Sl enc z w v xs) (h0 : 0 ≤ i) (h1 : i < xs.length)
    (hk : ∀ p, Ops md P n ds all k Φ l ((d2, enc (xs.getD i.toNat z)) :: (d1, p) :: ρ) w) : Ops md P n ds all k Φ (o1 :: o2 :: l) ρ w := by
  obtain ⟨hm, A, c, rfl, h⟩ := hsl
  obtain ⟨a, rfl, hc⟩ := h (by omega)
  refine Ops.idx ho hd1 hg1 ht hs hx hy h0 h1 ?_
  rw [Nat.mul_one]
  exact Ops.ld ho2 hd2 hg2 ha (by simp [ev, look]) (hc i.toNat (by omega)) (hk _)
/-- The same behind a guard (struck from the first one by 'Ops.yes'). -/
theorem Ops.rdSg {α : Type} {enc : α → Value} {z : α} {o1 o2 : Oper} {d1 d2 t t' e j d : Nat} {want : Bool} {x y : Operand} {v : Value} {i : Int} {xs : List α}
    (ho : o1.op = .indexAddr t x y) (hd1 : o1.dst = some d1) (hg1 : o1.guard = none) (ho2 : o2.op = .load t' (.tmp d1)) (hd2 : o2.dst = some d2) (hg2 : o2.guard = some (j, want))
    (hj : (all[j]?).bind (·.dst) = some d) (hv : look ρ d = some (.bool want)) (hne : Nat.beq d1 d = false)
    (ht : tyD P t = some (.slice e)) (hs : tyS P e = some 1) (ha : tyAgg P t' = some false) (hx : ev ρ x = some v) (hy : ev ρ y = some (.int .i64 i)) (hsl : Sl enc z w v xs) (h0 : 0 ≤ i) (h1 : i < xs.length)
    (hk : ∀ p, Ops md P n ds all k Φ l ((d2, enc (xs.getD i.toNat z)) :: (d1, p) :: ρ) w) : Ops md P n ds all k Φ (o1 :: o2 :: l) ρ w := by
  obtain ⟨hm, A, c, rfl, h⟩ := hsl
  obtain ⟨a, rfl, hc⟩ := h (by omega)
  refine Ops.idx ho hd1 hg1 ht hs hx hy h0 h1 ?_
  rw [Nat.mul_one]
  exact Ops.yes hg2 hj (by simp [look, hne, hv]) (Ops.ld (o := { o2 with guard := none }) ho2 hd2 rfl ha (by simp [ev, look]) (hc i.toNat (by omega)) (hk _))
/-- An element of a slice of the call's own, written. -/
theorem Ops.wrS {o1 o2 : Oper} {d1 t t' e m : Nat} {x y z : Operand} {v u : Value} {i : Int} {cs : List Value}
    (ho : o1.op = .indexAddr t x y) (hd1 : o1.dst = some d1) (hg1 : o1.guard = none) (ho2 : o2.op = .store t' (.tmp d1) z) (hd2 : o2.dst = none) (hg2 : o2.guard = none)
    (ht : tyD P t = some (.slice e)) (hs : tyS P e = some 1) (hs' : tyS P t' = some 1) (hx : ev ρ x = some v) (hy : ev ρ y = some (.int .i64 i)) (hz : ev ρ z = some u) (hzd : z ≠ .tmp d1) (h1c : u.oneCell' = true)
    (hown : w.ownsRow 0 e 1 v m cs) (h0 : 0 ≤ i) (h1 : i < m)
    (hk : ∀ w' p, w'.ownsRow 0 e 1 v m (cs.set i.toNat u) → Kp (fun b => v.ownBlock = some b) w w' → w'.heap.size = w.heap.size → Ops none P n ds all k Φ l ((d1, p) :: ρ) w') : Ops none P n ds all k Φ (o1 :: o2 :: l) ρ w := by
  rcases hown.2 with ⟨rfl, h0'⟩ | ⟨g, cap, cur, rfl, _, hg, hnc, _, hcs, ht'⟩
  · omega
  · refine Ops.idx ho hd1 hg1 ht hs hx hy h0 h1 ?_
    rw [Nat.mul_one, add_lit, Nat.zero_add]
    have hst := hown.stored i.toNat u
    have hz' : ev ((d1, .pointer (some ⟨g, i.toNat, none⟩)) :: ρ) z = some u := by
      cases z with
      | tmp t2 =>
        have : Nat.beq d1 t2 = false := by
          cases hb : Nat.beq d1 t2 with
          | false => rfl
          | true => exact absurd (by rw [Nat.eq_of_beq_eq_true hb]) hzd
        simp only [ev, look, this] at hz ⊢
        exact hz
      | _ => exact hz
    refine Ops.st (b := g) (q := i.toNat) (cs := cur) (t' := e) ho2 hd2 hg2 hs' (by simp [ev, look]) hz' h1c hg (by rw [hcs]; omega) (fun w' hu => hk w' _ ?_ ?_ hu.size)
    · refine ⟨by simpa using hown.1, .inr ⟨g, cap, _, rfl, Nat.zero_le _, hu.blk, hnc, by assumption, by simpa using hcs, ?_⟩⟩
      rw [Array.toList_setIfInBounds, ← ht', List.take_set]
    · exact hu.kp.mono (fun i _ e => by simp [Value.ownBlock, e])
omit hT in
theorem run_store {a : Addr} {v c : Value} (h1 : v.oneCell' = true) (hc : w.cell? a = some c) (hf : w.frozen? a = false) : (store a v).run P w = .ok () (w.setCell a v) := by
  cases v <;> simp_all [Value.oneCell', store, Sem.run]
/-- A store of two cells into a block of the call's own. -/
theorem Ops.st2 {o : Oper} {t b t' : Nat} {x y : Operand} {u v c0 c1 : Value} (ho : o.op = .store t x y) (hd : o.dst = none) (hg : o.guard = none)
    (hs : tyS P t = some 2) (hx : ev ρ x = some (.pointer (some ⟨b, 0, none⟩))) (hy : ev ρ y = some (.agg #[u, v])) (h1 : u.oneCell' = true) (h2 : v.oneCell' = true) (hb : Blk w b #[c0, c1] t')
    (hk : ∀ w', Upd w w' b #[u, v] t' → Ops none P n ds all k Φ l ρ w') : Ops none P n ds all k Φ (o :: l) ρ w := by
  have hu1 := upd_set hb 0 u
  have hu2 := upd_set hu1.blk 1 v
  refine Ops.unit hg hd (fun a hr => ?_) (hk ((w.setCell ⟨b, 0, none⟩ u).setCell ⟨b, 1, none⟩ v) ⟨by simpa using hu2.blk, (hu1.kp.trans hu2.kp).mono (fun i _ e => by rcases e with e | e <;> exact e), hu2.size.trans hu1.size⟩)
  have e0 : (⟨b, 0, none⟩ : Addr).add 0 = ⟨b, 0, none⟩ := by simp [Addr.add]
  have e1 : (⟨b, 0, none⟩ : Addr).add 1 = ⟨b, 1, none⟩ := by simp [Addr.add]
  have c0' : w.cell? ⟨b, 0, none⟩ = some c0 := hb.cell (by simp)
  have f0 : w.frozen? ⟨b, 0, none⟩ = false := by unfold Blk at hb; simp [World.frozen?, hb]
  have hb1 := hu1.blk
  have c1' : (w.setCell ⟨b, 0, none⟩ u).cell? ⟨b, 1, none⟩ = some c1 := hb1.cell (by simp)
  have f1 : (w.setCell ⟨b, 0, none⟩ u).frozen? ⟨b, 1, none⟩ = false := by unfold Blk at hb1; simp [World.frozen?, hb1]
  have r0 := run_store (P := P) h1 c0' f0
  have r1 := run_store (P := P) h2 c1' f1
  simp only [execOp, ho, hr.ev hx, hr.ev hy]
  simp [Instr.storeAt, Instr.sureAddr, storeVar, run_sizeOf hs, storeCells, Value.cells, e0, e1, r0, r1]
end
end Go.Proofs.YtcmjlmnfdncajaaGreatDoor.VW
