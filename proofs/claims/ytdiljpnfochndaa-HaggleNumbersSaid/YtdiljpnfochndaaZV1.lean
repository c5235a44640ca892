/- A part of the walk: what this seat's statements share. -/
import Derived.Calls
import Derived.Still
import Derived.StillTail
import Derived.Deep.Quiet
import Derived.Below
import Derived.Tactics
import Derived.KernelRfl
set_option linter.unusedVariables false
set_option linter.unusedSimpArgs false
/- The walk's own logic: states are short lists of what is known of the slots; each rule takes one operation. -/
namespace Go.Proofs.Ytdiljpnfochndaa.VW
open Go

abbrev E := List (Nat × Value)
def look : E → Nat → Option Value
  | [], _ => none
  | (d, v) :: r, t => bif Nat.beq d t then some v else look r t
def ev (ρ : E) : Operand → Option Value
  | .tmp t => look ρ t
  | .const v => some v
  | .global g => some (.pointer (some ⟨g, 0, none⟩))
  | .func f => some (.func (.func f) #[] #[])
def put (d : Option Tmp) (v : Value) (ρ : E) : E := match d with | some d => (d, v) :: ρ | none => ρ
structure Rep (n : Nat) (a : Act) (ρ : E) : Prop where
  size : a.tmps.size = n
  slot : ∀ t v, look ρ t = some v → a.tmps.getD t undef = v
theorem Rep.ev {n : Nat} {a : Act} {ρ : E} (h : Rep n a ρ) {x : Operand} {v : Value} (hx : VW.ev ρ x = some v) : a.eval x = v := by
  cases x with
  | tmp t => exact h.slot t v hx
  | const u => exact Option.some.inj hx
  | global g => exact Option.some.inj hx
  | func f => exact Option.some.inj hx
def dOk (n : Nat) : Option Tmp → Bool
  | some d => Nat.blt d n
  | none => true
theorem Rep.put {n : Nat} {a : Act} {ρ : E} (h : Rep n a ρ) {d : Option Tmp} (hd : dOk n d = true) (v : Value) : Rep n (a.put d v) (put d v ρ) := by
  cases d with
  | none => exact h
  | some d =>
    have hd' : d < n := by simpa [dOk] using hd
    refine ⟨by simp [Act.put, h.size], fun t u hu => ?_⟩
    simp only [VW.put, look] at hu
    by_cases e : d = t
    · subst e
      simp at hu
      subst hu
      simp [Act.put, Array.getD_eq_getD_getElem?, h.size, hd']
    · have : Nat.beq d t = false := by
        cases hb : Nat.beq d t with
        | false => rfl
        | true => exact absurd (Nat.eq_of_beq_eq_true hb) e
      rw [this] at hu
      have := h.slot t u hu
      simp only [Act.put, Array.getD_eq_getD_getElem?] at this ⊢
      rw [Array.getElem?_setIfInBounds_ne (by omega)]
      exact this
def Sub : E → E → Prop
  | [], _ => True
  | (d, v) :: r, ρ => look ρ d = some v ∧ Sub r ρ
theorem Sub.look {ρ' ρ : E} (h : Sub ρ' ρ) {t : Nat} {v : Value} (hl : VW.look ρ' t = some v) : VW.look ρ t = some v := by
  induction ρ' with
  | nil => simp [VW.look] at hl
  | cons p r ih =>
    obtain ⟨d, u⟩ := p
    simp only [VW.look] at hl
    cases hb : Nat.beq d t with
    | true =>
      rw [hb] at hl
      have := Nat.eq_of_beq_eq_true hb
      subst this
      simp at hl
      subst hl
      exact h.1
    | false => rw [hb] at hl; exact ih h.2 hl
theorem Rep.sub {n : Nat} {a : Act} {ρ ρ' : E} (h : Rep n a ρ) (hs : Sub ρ' ρ) : Rep n a ρ' := ⟨h.size, fun t v hl => h.slot t v (hs.look hl)⟩

def inB (n : Nat) : Code → Bool
  | .region _ ops _ => ops.toList.all fun o => dOk n o.dst
  | .seq a b => inB n a && inB n b
  | .cond _ a b => inB n a && inB n b
  | .block _ c => inB n c
  | .loop c => inB n c
  | .scope c => inB n c
  | .rangeFunc .. => false
  | _ => true

/-- What is still to be done: code; the end of a block; the head of a loop. -/
inductive It where
  | code (c : Code)
  | blk (id : Nat)
  | lp (J : E → World → Prop)
abbrev Post := Exit → E → World → Prop
def lift (n : Nat) (ds : List Deferred) (Q : Post) (e : Exit) (a : Act) (w : World) : Prop := ∃ ρ, Rep n a ρ ∧ a.defers = ds ∧ Q e ρ w
def Wc (P : Program) (n : Nat) (ds : List Deferred) (c : Code) (Q : Post) (ρ : E) (w : World) : Prop :=
  inB n c = true → ∀ a, Rep n a ρ → a.defers = ds → c.wp P (lift n ds Q) a w
def Qof (P : Program) (n : Nat) (ds : List Deferred) (Φ : Post) : List It → Post
  | [] => Φ
  | .code c :: k => fun e ρ w => match e with
    | .normal => Wc P n ds c (Qof P n ds Φ k) ρ w
    | e => Qof P n ds Φ k e ρ w
  | .blk id :: k => fun e ρ w => match e with
    | .exit i => if i = id then Qof P n ds Φ k .normal ρ w else Qof P n ds Φ k (.exit i) ρ w
    | e => Qof P n ds Φ k e ρ w
  | .lp J :: k => fun e ρ w => match e with
    | .normal => J ρ w
    | e => Qof P n ds Φ k e ρ w
def W (P : Program) (n : Nat) (ds : List Deferred) (k : List It) (Φ : Post) (ρ : E) (w : World) : Prop := Qof P n ds Φ k .normal ρ w
section
variable {P : Program} {n : Nat} {ds : List Deferred} {Φ : Post} {k : List It} {ρ : E} {w : World}
theorem Wc.mono {c : Code} {Q Q' : Post} (hq : ∀ e ρ w, Q e ρ w → Q' e ρ w) (h : Wc P n ds c Q ρ w) : Wc P n ds c Q' ρ w :=
  fun hi a hr hd => wp_mono (h hi a hr hd) fun e _ w ⟨ρ, r, d, q⟩ => ⟨ρ, r, d, hq e ρ w q⟩
theorem Qof.ret (h : Φ .ret ρ w) : Qof P n ds Φ k .ret ρ w := by
  induction k with
  | nil => exact h
  | cons x r ih => cases x <;> exact ih
theorem Qof.pan {ch : List PanicEntry} (h : Φ (.panic ch) ρ w) : Qof P n ds Φ k (.panic ch) ρ w := by
  induction k with
  | nil => exact h
  | cons x r ih => cases x <;> exact ih
def popTo (id : Nat) : List It → Option (List It)
  | [] => none
  | .blk i :: k => bif Nat.beq id i then some k else popTo id k
  | .code _ :: k => popTo id k
  | .lp _ :: k => popTo id k
theorem Qof.exit {id : Nat} {k' : List It} (hp : popTo id k = some k') (hw : W P n ds k' Φ ρ w) : Qof P n ds Φ k (.exit id) ρ w := by
  induction k with
  | nil => simp [popTo] at hp
  | cons x r ih =>
    cases x with
    | code c => exact ih hp
    | lp J => exact ih hp
    | blk i =>
      simp only [popTo] at hp
      show if id = i then _ else _
      cases hb : Nat.beq id i with
      | true =>
        rw [hb] at hp
        rw [if_pos (Nat.eq_of_beq_eq_true hb)]
        simp at hp
        subst hp
        exact hw
      | false =>
        rw [hb] at hp
        rw [if_neg (Nat.ne_of_beq_eq_false hb)]
        exact ih hp
theorem W.seq {a b : Code} (h : W P n ds (.code a :: .code b :: k) Φ ρ w) : W P n ds (.code (.seq a b) :: k) Φ ρ w := by
  intro hi a' hr hd
  simp only [inB, Bool.and_eq_true] at hi
  refine wp_seq (wp_mono (h hi.1 a' hr hd) fun e a w hl => ?_)
  cases e with
  | normal =>
    obtain ⟨ρ', hr', hd', hq⟩ := hl
    exact hq hi.2 a hr' hd'
  | _ => exact hl
theorem W.skip (h : W P n ds k Φ ρ w) : W P n ds (.code .skip :: k) Φ ρ w := fun _ _ hr hd => wp_skip ⟨ρ, hr, hd, h⟩
theorem W.ret (h : Φ .ret ρ w) : W P n ds (.code .ret :: k) Φ ρ w := fun _ _ hr hd => wp_ret ⟨ρ, hr, hd, Qof.ret h⟩
theorem W.exit {id : Nat} {k' : List It} (hp : popTo id k = some k') (h : W P n ds k' Φ ρ w) : W P n ds (.code (.exit id) :: k) Φ ρ w :=
  fun _ _ hr hd => wp_exit ⟨ρ, hr, hd, Qof.exit hp h⟩
theorem W.endb {id : Nat} (h : W P n ds k Φ ρ w) : W P n ds (.blk id :: k) Φ ρ w := h
theorem W.endl {J : E → World → Prop} (h : J ρ w) : W P n ds (.lp J :: k) Φ ρ w := h
theorem W.fin (h : Φ .normal ρ w) : W P n ds [] Φ ρ w := h
theorem W.block {id : Nat} {c : Code} (h : W P n ds (.code c :: .blk id :: k) Φ ρ w) : W P n ds (.code (.block id c) :: k) Φ ρ w := by
  intro hi a hr hd
  refine wp_block (wp_mono (h hi a hr hd) fun e a w hl => ?_)
  obtain ⟨ρ', hr', hd', hq⟩ := hl
  cases e with
  | exit i =>
    have hq' : if i = id then Qof P n ds Φ k .normal ρ' w else Qof P n ds Φ k (.exit i) ρ' w := hq
    show if i = id then _ else _
    split
    · rename_i e; rw [if_pos e] at hq'; exact ⟨ρ', hr', hd', hq'⟩
    · rename_i e; rw [if_neg e] at hq'; exact ⟨ρ', hr', hd', hq'⟩
  | _ => exact ⟨ρ', hr', hd', hq⟩
theorem W.cond {c : Operand} {x y : Code} {t : Bool} (hc : ev ρ c = some (.bool t)) (ht : t = true → W P n ds (.code x :: k) Φ ρ w) (hf : t = false → W P n ds (.code y :: k) Φ ρ w) :
    W P n ds (.code (.cond c x y) :: k) Φ ρ w := by
  intro hi a hr hd
  simp only [inB, Bool.and_eq_true] at hi
  exact wp_cond_split (hr.ev hc) (fun e => ht e hi.1 a hr hd) (fun e => hf e hi.2 a hr hd)
/-- A loop: 'I m' holds at its head; each round comes back with a smaller m. -/
theorem W.loop {c : Code} (I : Nat → E → World → Prop) (h0 : ∃ m ρ0, I m ρ0 w ∧ Sub ρ0 ρ)
    (round : ∀ m ρ w, I m ρ w → W P n ds (.code c :: .lp (fun ρ1 w1 => ∃ m2 ρ2, (I m2 ρ2 w1 ∧ m2 < m) ∧ Sub ρ2 ρ1) :: k) Φ ρ w) :
    W P n ds (.code (.loop c) :: k) Φ ρ w := by
  intro hi a hr hd
  obtain ⟨m, ρ0, h0, hs⟩ := h0
  have key : ∀ m a w, (∃ ρ, Rep n a ρ ∧ a.defers = ds ∧ I m ρ w) → (Code.loop c).wp P (lift n ds (Qof P n ds Φ k)) a w := by
    intro m a w ha
    refine wp_loop (P := P) (fun a w => ∃ m ρ, Rep n a ρ ∧ a.defers = ds ∧ I m ρ w) (fun a w => Classical.epsilon fun m => (∃ ρ, Rep n a ρ ∧ a.defers = ds ∧ I m ρ w) ∧ ∀ m', (∃ ρ, Rep n a ρ ∧ a.defers = ds ∧ I m' ρ w) → m ≤ m') ⟨m, ha⟩ ?_
    rintro a w ⟨m1, hm1⟩
    have hmin : ∀ a w, (∃ m, ∃ ρ, Rep n a ρ ∧ a.defers = ds ∧ I m ρ w) → (fun m => (∃ ρ, Rep n a ρ ∧ a.defers = ds ∧ I m ρ w) ∧ ∀ m', (∃ ρ, Rep n a ρ ∧ a.defers = ds ∧ I m' ρ w) → m ≤ m') (Classical.epsilon fun m => (∃ ρ, Rep n a ρ ∧ a.defers = ds ∧ I m ρ w) ∧ ∀ m', (∃ ρ, Rep n a ρ ∧ a.defers = ds ∧ I m' ρ w) → m ≤ m') := by
      intro a w hex
      refine Classical.epsilon_spec (p := fun m => (∃ ρ, Rep n a ρ ∧ a.defers = ds ∧ I m ρ w) ∧ ∀ m', (∃ ρ, Rep n a ρ ∧ a.defers = ds ∧ I m' ρ w) → m ≤ m') ?_
      obtain ⟨m, hm⟩ := hex
      induction m using Nat.strongRecOn with
      | _ m ih =>
        by_cases hlt : ∃ m' < m, ∃ ρ, Rep n a ρ ∧ a.defers = ds ∧ I m' ρ w
        · obtain ⟨m', h1, h2⟩ := hlt
          exact ih m' h1 h2
        · refine ⟨m, hm, fun m' h' => ?_⟩
          by_cases h'' : m ≤ m'
          · exact h''
          · exact absurd ⟨m', by omega, h'⟩ hlt
    obtain ⟨⟨ρ1, hr1, hd1, hI1⟩, hle⟩ := hmin a w ⟨m1, hm1⟩
    refine wp_mono (round _ ρ1 w hI1 hi a hr1 hd1) fun e a2 w2 hl => ?_
    obtain ⟨ρ2, hr2, hd2, hq⟩ := hl
    cases e with
    | normal =>
      obtain ⟨m3, ρ3, ⟨hI3, hlt⟩, hs3⟩ : ∃ m2 ρ2', (I m2 ρ2' w2 ∧ m2 < _) ∧ Sub ρ2' ρ2 := hq
      have hex : ∃ ρ, Rep n a2 ρ ∧ a2.defers = ds ∧ I m3 ρ w2 := ⟨ρ3, hr2.sub hs3, hd2, hI3⟩
      exact ⟨⟨m3, hex⟩, Nat.lt_of_le_of_lt ((hmin a2 w2 ⟨m3, hex⟩).2 m3 hex) hlt⟩
    | _ => exact ⟨ρ2, hr2, hd2, hq⟩
  exact key m a w ⟨ρ0, hr.sub hs, hd, h0⟩
theorem W.sub {ρ' : E} (hs : Sub ρ' ρ) (h : W P n ds (k) Φ ρ' w) (hk : ∃ c k', k = .code c :: k') : W P n ds k Φ ρ w := by
  obtain ⟨c, k', rfl⟩ := hk
  exact fun hi a hr hd => h hi a (hr.sub hs) hd

/-! ### Regions -/
/-- md = none: in the text's order. md = some tl: operations that turn nothing, whose order is drawn; behind them tl. -/
def Core (md : Option (List Oper)) (P : Program) (all : Array Oper) (Q : Exit → Act → World → Prop) (l : List Oper) (a : Act) (w : World) : Prop := match md with
  | none => wpList P all Q l a w
  | some tl => wpStill P all w (fun a => wpList P all Q tl a w) l a
def Ops (md : Option (List Oper)) (P : Program) (n : Nat) (ds : List Deferred) (all : Array Oper) (k : List It) (Φ : Post) (l : List Oper) (ρ : E) (w : World) : Prop :=
  (l.all fun o => dOk n o.dst) = true → ∀ a, Rep n a ρ → a.defers = ds → Core md P all (lift n ds (Qof P n ds Φ k)) l a w
variable {all : Array Oper} {l : List Oper} {md : Option (List Oper)}
theorem W.region {id : Nat} (h : Ops none P n ds l.toArray k Φ l ρ w) : W P n ds (.code (.region id l.toArray false) :: k) Φ ρ w :=
  fun hi a hr hd => wp_region_lit (h (by simpa [inB] using hi) a hr hd)
theorem W.still {id : Nat} (hm : P.follows .mixedOrders = true) (hB : Region.lexB .any l.toArray = true)
    (h : Ops (some []) P n ds l.toArray k Φ l ρ w.drew) : W P n ds (.code (.region id l.toArray true) :: k) Φ ρ w :=
  fun hi a hr hd => wp_region_still_lit hm hB (h (by simpa [inB] using hi) a hr hd)
theorem W.tail {id : Nat} (m : Nat) (hm : P.follows .mixedOrders = true) (hB : Region.lexTailB .any l.toArray m = true)
    (h : Ops (some (l.drop m)) P n ds l.toArray k Φ (l.take m) ρ w.drew) : W P n ds (.code (.region id l.toArray true) :: k) Φ ρ w := by
  intro hi a hr hd
  refine wp_region_still_tail m hm hB (h ?_ a hr hd)
  have h1 : (l.all fun o => dOk n o.dst) = true := by simpa [inB] using hi
  rw [List.all_eq_true] at h1 ⊢
  exact fun o ho => h1 o (List.mem_of_mem_take ho)
theorem Ops.nil (h : W P n ds k Φ ρ w) : Ops none P n ds all k Φ [] ρ w :=
  fun _ _ hr hd => (⟨ρ, hr, hd, h⟩ : lift n ds (Qof P n ds Φ k) .normal _ w)
theorem Ops.nilS {tl : List Oper} (hi : (tl.all fun o => dOk n o.dst) = true) (h : Ops none P n ds all k Φ tl ρ w) : Ops (some tl) P n ds all k Φ [] ρ w :=
  fun _ a hr hd => (h hi a hr hd : Core none P all (lift n ds (Qof P n ds Φ k)) tl a w)
theorem Ops.sub {ρ' : E} (hs : Sub ρ' ρ) (h : Ops md P n ds all k Φ l ρ' w) : Ops md P n ds all k Φ l ρ w := fun hi a hr hd => h hi a (hr.sub hs) hd
/-- One operation that gives a value. -/
theorem Ops.valS {o : Oper} {v : Value} {d : Nat} (hd : o.dst = some d) (hg : o.guard = none) (hr : ∀ a, Rep n a ρ → (execOp a.eval o).run P w = .ok (.value v) w)
    (h : Ops md P n ds all k Φ l ((d, v) :: ρ) w) : Ops md P n ds all k Φ (o :: l) ρ w := by
  intro hi a ha hds
  simp only [List.all_cons, Bool.and_eq_true] at hi
  have h' := h hi.2 (a.put o.dst v) (by have := ha.put hi.1 v; rw [hd] at this ⊢; exact this) (by rw [hd]; exact hds)
  cases md with
  | none =>
    refine wpList_plain hg fun K hK => ?_
    unfold Oper.wp
    rw [hr a ha]
    exact hK _ _ h'
  | some tl =>
    refine wpStill_step fun K hK => ?_
    rw [if_pos (by simp [Region.wanted, hg])]
    unfold Oper.still
    rw [hr a ha]
    exact ⟨rfl, hK _ h'⟩
theorem Ops.val {o : Oper} {v : Value} {w' : World} {d : Nat} (hd : o.dst = some d) (hg : o.guard = none) (hr : ∀ a, Rep n a ρ → (execOp a.eval o).run P w = .ok (.value v) w')
    (h : Ops none P n ds all k Φ l ((d, v) :: ρ) w') : Ops none P n ds all k Φ (o :: l) ρ w := by
  intro hi a ha hds
  simp only [List.all_cons, Bool.and_eq_true] at hi
  refine wpList_plain hg fun K hK => ?_
  unfold Oper.wp
  rw [hr a ha]
  exact hK _ _ (h hi.2 _ (by have := ha.put hi.1 v; rw [hd] at this ⊢; exact this) (by rw [hd]; exact hds))
theorem Ops.unit {o : Oper} {w' : World} (hg : o.guard = none) (hdst : o.dst = none) (hr : ∀ a, Rep n a ρ → (execOp a.eval o).run P w = .ok .skip w')
    (h : Ops none P n ds all k Φ l ρ w') : Ops none P n ds all k Φ (o :: l) ρ w := by
  intro hi a ha hd
  simp only [List.all_cons, Bool.and_eq_true] at hi
  refine wpList_plain hg fun K hK => ?_
  unfold Oper.wp
  rw [hr a ha]
  exact hK _ _ (by rw [hdst]; exact h hi.2 _ ha hd)
theorem Ops.enter {o : Oper} {d : Option Tmp} {f : FuncId} {args : Array Value} {R : Ending → World → Prop} (hg : o.guard = none) (hdst : o.dst = d) (hr : ∀ a, Rep n a ρ → (execOp a.eval o).run P w = .ok (.enter f args) w)
    (hc : Calls P f args w R) (h : ∀ e w', R e w' → ∃ v, e = .returned v ∧ Ops none P n ds all k Φ l (put d v ρ) w') : Ops none P n ds all k Φ (o :: l) ρ w := by
  subst hdst
  intro hi a ha hd
  simp only [List.all_cons, Bool.and_eq_true] at hi
  refine wpList_plain hg fun K hK => ?_
  unfold Oper.wp
  rw [hr a ha]
  refine hc.mono fun e w' hR => ?_
  obtain ⟨v, rfl, hO⟩ := h e w' hR
  exact hK _ _ (hO hi.2 _ (ha.put hi.1 v) (by cases hx : o.dst <;> exact hd))
theorem Ops.enterS {o : Oper} {d : Nat} {f : FuncId} {args : Array Value} {v : Value} {R : Ending → World → Prop} (hg : o.guard = none) (hd : o.dst = some d) (hr : ∀ a, Rep n a ρ → (execOp a.eval o).run P w = .ok (.enter f args) w)
    (hc : Calls P f args w R) (hR : ∀ e w', R e w' → e = .returned v ∧ w' = w) (h : Ops md P n ds all k Φ l ((d, v) :: ρ) w) : Ops md P n ds all k Φ (o :: l) ρ w := by
  intro hi a ha hds
  simp only [List.all_cons, Bool.and_eq_true] at hi
  have h' := h hi.2 (a.put o.dst v) (by have := ha.put hi.1 v; rw [hd] at this ⊢; exact this) (by rw [hd]; exact hds)
  cases md with
  | none =>
    refine wpList_plain hg fun K hK => ?_
    unfold Oper.wp
    rw [hr a ha]
    refine hc.mono fun e w' hR' => ?_
    obtain ⟨rfl, rfl⟩ := hR e w' hR'
    exact hK _ _ h'
  | some tl =>
    refine wpStill_step fun K hK => ?_
    rw [if_pos (by simp [Region.wanted, hg])]
    unfold Oper.still
    rw [hr a ha]
    exact ⟨rfl, v, hc.mono hR, hK _ h'⟩
end
end Go.Proofs.Ytdiljpnfochndaa.VW
