/- A part of the walk: what this seat's statements share. -/
import Derived.Test.YtcmjlmnfdncajaaGreatDoorZG8
import Derived.Test.YtcmjlmnfdncajaaGreatDoorZG3
import Derived.RangeFuncLeaves
import Derived.Lib.Overlaps
set_option linter.unusedVariables false
set_option linter.unusedSimpArgs false
set_option linter.unusedSectionVars false
/- Within a fence, with panics: rounds that panic, iterators that let a panic through, and the statement in a function whose number is known. -/
namespace Go.Proofs.YtcmjlmnfdncajaaGreatDoor.VW
open Go Go.RowKit
theorem opInP {r : Option Nat} {m : Nat} {P : Program} {o : Oper} {a : Act} {w : World} {K K' : Act → World → Prop} {Q Q' : Exit → Act → World → Prop} (hd : ∀ c, o.op ≠ .defer c) (hK : ∀ a w, K a w → K' a w) (hp : ∀ c a w, Q (.panic c) a w → Q' (.panic c) a w) (ho : ¬ LetsOut Q)
    (h : o.wp P a w K Q) : o.wpIn (Fw r) m P a w K' Q' := by
  refine ⟨fun f _ => Fw_fn r f, ?_⟩
  rw [Oper.semAt_eq _ _ _ hd]
  unfold Oper.wp at h
  generalize (execOp a.eval o).run P w = res at *
  have hdep : (Fw r).depth.isSome = true → 1 ≤ m := fun h => by rw [Fw_dep] at h; cases h
  cases res with
  | ok nx w' =>
    cases nx <;> simp only [Oper.upon] at h <;> simp only [Oper.uponIn]
    case value v => exact hK _ _ h
    case skip => exact hK _ _ h
    case defer d => exact hK _ _ h
    case enter f args =>
      refine ⟨hdep, Fw_calls r (h.mono fun e w'' he => ?_)⟩
      cases e with
      | returned v => exact hK _ _ he
      | panicked ch => exact hp _ _ _ he
      | outgrown => exact (ho he).elim
    case row rw args => exact ⟨hdep, Fw_rows r (h.mono fun v w'' hv => hK _ _ hv)⟩
  | halt x w' =>
    cases x <;> simp only [Oper.upon] at h
    exact hp _ _ _ h
section
variable {P : Program} {n : Nat} {ds : List Deferred} {ρ : E} {w : World} {r : Option Nat}
theorem listInP {all : Array Oper} {Q Q' : Exit → Act → World → Prop} {rest : List Oper} (hp : ∀ c a w, Q (.panic c) a w → Q' (.panic c) a w) (ho : ¬ LetsOut Q) (hr : ∀ a w, Q .normal a w → wpListIn (Fw r) 0 P all Q' rest a w) :
    ∀ (pre : List Oper) (a : Act) (w : World), noDefer pre = true → wpList P all Q pre a w → wpListIn (Fw r) 0 P all Q' (pre ++ rest) a w
  | [], a, w, _, h => hr a w h
  | o :: l, a, w, hd, h => by
    have hd' : noDefer l = true := by unfold noDefer at *; simp only [List.all_cons, Bool.and_eq_true] at hd; exact hd.2
    have ih := fun a w => listInP hp ho hr l a w hd'
    show wpListIn (Fw r) 0 P all Q' (o :: (l ++ rest)) a w
    unfold wpList at h
    unfold wpListIn
    split
    · rename_i hw
      rw [if_pos hw] at h
      exact h.elim (fun h => opInP (noDefer_at hd (by simp)) ih hp ho h) (fun h => (ho h.2).elim)
    · rename_i hw
      rw [if_neg hw] at h
      exact ⟨fun f _ => Fw_fn r f, ih _ _ h⟩
def PanOf (Q : Post) : Post := fun e ρ w => match e with
  | .panic c => Q (.panic c) ρ w
  | _ => False
theorem OpsI.preP {all : Array Oper} {Q : Post} {rest : List Oper} (pre : List Oper) (hi : (pre.all fun o => dOk n o.dst) = true) (hd : noDefer pre = true)
    (h : Ops none P n ds all [.lp (OpsI r P n ds all Q rest)] (PanOf Q) pre ρ w) : OpsI r P n ds all Q (pre ++ rest) ρ w := by
  intro a hr hds
  exact listInP (fun c a w h => by obtain ⟨ρ', h1, h2, h3⟩ := h; exact ⟨ρ', h1, h2, h3⟩) (fun h => by obtain ⟨_, _, _, _, h⟩ := h; exact h.2.elim) (fun a w h => by obtain ⟨ρ', h1, h2, h3⟩ := h; exact h3 a h1 h2) pre a w hd (h hi a hr hds)
theorem OpsI.splitP {all : Array Oper} {Q : Post} {l pre rest : List Oper} (m : Nat) (h1 : l.take m = pre) (h2 : l.drop m = rest) (hi : (pre.all fun o => dOk n o.dst) = true) (hd : noDefer pre = true)
    (h : Ops none P n ds all [.lp (OpsI r P n ds all Q rest)] (PanOf Q) pre ρ w) : OpsI r P n ds all Q l ρ w := by
  have := OpsI.preP (r := r) (Q := Q) (rest := rest) pre hi hd h
  rw [← h1, ← h2, List.take_append_drop] at this
  exact this
theorem Wi.regionP {id : Nat} {l : List Oper} {Q : Post} (hi : (l.all fun o => dOk n o.dst) = true) (hd : noDefer l = true) (h : Ops none P n ds l.toArray [.lp (Q .normal)] (PanOf Q) l ρ w) : Wi r P n ds (.region id l.toArray false) Q ρ w := by
  refine Wi.region ?_
  have := OpsI.preP (r := r) (rest := []) (Q := Q) (all := l.toArray) l hi hd (ρ := ρ) (w := w) (P := P) (ds := ds) (fun hh a hr hds => wpList_mono (fun e a w h => by
    obtain ⟨ρ', h1, h2⟩ := h
    cases e with
    | normal => exact ⟨ρ', h1, LiftD.mk h2.1 (OpsI.nil h2.2)⟩
    | ret => obtain ⟨_, _, h3⟩ := h2; exact h3.elim
    | panic c => exact ⟨ρ', h1, h2⟩
    | _ => exact h2.2.elim) _ _ _ (h hh a hr hds))
  rwa [List.append_nil] at this
/-- A call of yield that may panic. -/
theorem OpsI.yieldP {all : Array Oper} {Q : Post} {rest : List Oper} {o : Oper} {d : Nat} {x y : Operand} {l : Nat} {v : Value} {ts : Array TypeId}
    (ho : o.op = .call { callee := .value x, args := #[y], argTypes := ts }) (hdst : o.dst = some d) (hlt : Nat.blt d n = true) (hg : o.guard = none)
    (hx : ev ρ x = some (.func (.yield l) #[] #[])) (hy : ev ρ y = some v)
    (hyld : YieldAt (Fw r) 0 P l #[v] w (fun e w' => (e = .returned (.bool true) ∧ OpsI r P n ds all Q rest ((d, .bool true) :: ρ) w') ∨ ∃ ch, e = .panicked ch ∧ Q (.panic ch) ρ w')) : OpsI r P n ds all Q (o :: rest) ρ w := by
  intro a hr hd
  unfold wpListIn
  rw [if_pos (by simp [Region.wanted, hg])]
  refine ⟨fun f _ => Fw_fn r f, ?_⟩
  rw [Oper.semAt_eq _ _ _ (by rw [ho]; simp)]
  obtain ⟨fn, tmps, assign, body, hrun, hround⟩ := hyld
  have he : (execOp a.eval o).run P w = .ok (.round l fn tmps assign body) w := by
    have q : #[y].map a.eval = #[v] := by simp only [List.map_toArray, List.map_cons, List.map_nil, hr.ev hy]
    rw [← hrun]
    simp only [execOp, ho, resolve, q]
    simp [hr.ev hx, Deferred.ofValue, invoke]
  rw [he, Oper.uponIn_round]
  refine ⟨fun h => (by rw [Fw_dep] at h; cases h), RoundIn.mono hround fun e w' he => ?_⟩
  rcases he with ⟨rfl, h⟩ | ⟨ch, rfl, h⟩
  · have hput : Rep n (a.put o.dst (.bool true)) ((d, .bool true) :: ρ) := by
      have := hr.put (d := o.dst) (by rw [hdst]; exact hlt) (.bool true)
      rw [hdst] at this ⊢
      exact this
    exact h _ hput (by rw [hdst]; exact hd)
  · exact ⟨ρ, hr, hd, h⟩
/-- A function that may call yield and may panic. -/
theorem callsIn_WiP {f : FuncId} {fn : Func} {c : Code} {vs : List Value} {R : Value → World → Prop} {Q : List PanicEntry → World → Prop} (hf : P.funcs[f]? = some fn) (hb : fn.body = some c) (hs : Nat.ble vs.length fn.ntmps = true)
    (h : Wi none P fn.ntmps [] c (fun e ρ w => ((e = .normal ∨ e = .ret) ∧ ∃ us, resT fn.results.toList ρ = some us ∧ R (resV us) w) ∨ ∃ ch, e = .panic ch ∧ Q ch w) (argE vs 0) w) : CallsIn (Fw none) 0 P f vs.toArray w (RetP R Q) := by
  have hs' : vs.length ≤ fn.ntmps := Nat.le_of_ble_eq_true hs
  refine callsIn_of_wp hf hb trivial ?_
  refine wpIn_mono (h _ (rep_arg hs') rfl) ?_
  rintro e a w' ⟨ρ', hr', hd', hor⟩
  rcases hor with ⟨he, us, hu, hR⟩ | ⟨ch, rfl, hQ⟩
  · rcases he with rfl | rfl
    · exact ⟨hd', _, run_results hr' hu, .inl ⟨_, rfl, hR⟩⟩
    · exact ⟨hd', _, run_results hr' hu, .inl ⟨_, rfl, hR⟩⟩
  · exact ⟨hd', .inr ⟨ch, rfl, hQ⟩⟩
/-- What is asked at a round's end, where the round may panic. -/
def roundPostP (P : Program) (l : Nat) (R : Ending → World → Prop) : Exit → Act → World → Prop
  | .normal, _, w => ∃ v w', (Instr.endRound l none).run P w = .ok v w' ∧ R (.returned v) w'
  | .panic ch, a, w => a.defers = [] ∧ R (.panicked ch) w
  | _, _, _ => False
theorem roundIn_of_wpInP {F : Fence} {m l : Nat} {f : FuncId} {fn : Func} {tmps : Array Value} {assign body : Code} {w : World} {R : Ending → World → Prop} (hF : F.fn f) (hf : P.funcs[f]? = some fn)
    (h : assign.wpIn (F.inRound l) m P (Exit.then (fun a₁ w₁ => ∃ w₂, (Instr.beginRound l).run P w₁ = .ok () w₂ ∧ body.wpIn (F.inRound l) m P (roundPostP P l R) a₁ w₂) (fun _ _ _ => False))
      { tmps := tmps, defers := [] } w) :
    RoundIn F m P l f tmps assign body w R := by
  refine ⟨hF, fun c cs hr => ?_⟩
  let b : Frame := { (default : Frame) with fn := f, kind := .normal, roundOf := some l }
  have hb0 : Frame.round l f tmps assign body .normal = b.atR { tmps := tmps, defers := [] } [.code assign, .beginRound, .code body] := by
    simp [Frame.round, Frame.atR, b]
  have hr' : (F.inRound l).room ((c :: cs).length + 1 + m) := hr
  have hF' : (F.inRound l).fn b.fn := hF
  obtain ⟨e, a₁, w₁, hq, harr⟩ := h b [.beginRound, .code body] (c :: cs) rfl hF' hr'
  rw [← hb0] at harr
  cases e with
  | normal =>
    obtain ⟨w₂, hbr, hbody⟩ := hq
    have s1 : StepsIn (Machine.fenced P (F.inRound l)) P (lone (b.atR a₁ [.beginRound, .code body]) (c :: cs) w₁) (lone (b.atR a₁ [.code body]) (c :: cs) w₂) :=
      .one (fenced_calm (fr := b.atR a₁ [.beginRound, .code body]) hF' hr' rfl) (stepR_beginRound rfl hbr)
    obtain ⟨e₂, a₂, w₃, hq₂, harr₂⟩ := hbody b [] (c :: cs) rfl hF' hr'
    cases e₂ with
    | normal =>
      obtain ⟨v, w₄, hend, hR⟩ := hq₂
      exact ⟨.returned v, w₄, hR, (StepsIn.trans harr s1).trans (StepsIn.trans harr₂ (.one (fenced_calm (fr := b.atR a₂ []) hF' hr' rfl) (stepR_round_end rfl rfl hend)))⟩
    | panic chain =>
      obtain ⟨hd, hR⟩ := hq₂
      obtain ⟨todo, hs⟩ := harr₂
      have hleave : Frame.leaving P { b.atR a₂ todo with mode := .panicking chain } w₃ (.panicked chain) := ⟨rfl, hd, fn, hf⟩
      exact ⟨.panicked chain, w₃, hR, (StepsIn.trans harr s1).trans (StepsIn.trans hs (.one (fenced_leaving (fr := { b.atR a₂ todo with mode := .panicking chain }) hF' hr' hleave) (step_leave_panicked hleave)))⟩
    | ret => exact hq₂.elim
    | exit id => exact hq₂.elim
    | goto t => exact hq₂.elim
    | outgrown => exact hq₂.elim
  | exit id => exact hq.elim
  | goto t => exact hq.elim
  | ret => exact hq.elim
  | panic chain => exact hq.elim
  | outgrown => exact hq.elim
theorem round_inP {f : FuncId} {fn : Func} {tmps : Array Value} {p : Nat} {assign body : Code} {D L : Nat} {v : Value} {R : Ending → World → Prop} (hf : P.funcs[f]? = some fn) (hL : w.heap[L]? = some (.loop (loopRec f tmps #[p] assign body D))) (hr : Rep n { tmps := tmps, defers := [] } ρ) (hp : Nat.blt p n = true)
    (h : Wi (some L) P n [] assign (fun e ρ1 w1 => e = .normal ∧ ∃ r, w1.heap[L]? = some (.loop r) ∧ r.state = .ready ∧ Wi (some L) P n [] body (fun e ρ2 w2 => (e = .normal ∧ ∃ r2, w2.heap[L]? = some (.loop r2) ∧ R (.returned (.bool true)) (w2.putObj L (.loop { r2 with state := .ready, pending := none }))) ∨ ∃ ch, e = .panic ch ∧ R (.panicked ch) w2) ρ1 (w1.putObj L (.loop { r with state := .busy }))) ((p, v) :: ρ) w) :
    YieldAt (Fw none) 0 P L #[v] w R := by
  refine ⟨f, _, assign, body, run_yield hL rfl, roundIn_of_wpInP (Fw_fn none f) hf ?_⟩
  have hrep : Rep n { tmps := ((#[p] : Array Tmp).zip #[v]).foldl (fun tmps (t, a) => tmps.setIfInBounds t a) tmps, defers := [] } ((p, v) :: ρ) := by
    have := hr.put (d := some p) hp v
    simpa [Act.put, VW.put] using this
  refine wpIn_mono (h _ hrep rfl) ?_
  rintro e a w1 ⟨ρ1, hr1, hd1, rfl, r, hl1, hs1, hb⟩
  refine ⟨_, run_beginRound hl1 hs1, wpIn_mono (hb _ hr1 hd1) ?_⟩
  rintro e a2 w2 ⟨ρ2, hr2, hd2, hor⟩
  rcases hor with ⟨rfl, r2, hl2, hR⟩ | ⟨ch, rfl, hR⟩
  · exact ⟨_, _, run_endRound none hl2, hR⟩
  · exact ⟨hd2, hR⟩
/-- A code in an activation of the function f. -/
def wpF (f : FuncId) (P : Program) (Q : Exit → Act → World → Prop) (c : Code) (a : Act) (w : World) : Prop :=
  ∀ (b : Frame) (k : List Item) (cs : List Frame), b.roundOf = none → b.fn = f →
    ∃ e a' w', Q e a' w' ∧ ArrivesIn (Machine.fenced P Fence.wide) P (lone (b.atR a (.code c :: k)) cs w) b k cs e a' w'
theorem wpF_of {f : FuncId} {Q : Exit → Act → World → Prop} {c : Code} {a : Act} (h : c.wp P Q a w) : wpF f P Q c a w :=
  fun b k cs hro _ => (wpIn_wide (n := 0)).2 h b k cs hro trivial (room_wide _)
theorem wpF_seq {f : FuncId} {Q : Exit → Act → World → Prop} {x y : Code} {a : Act} (h : wpF f P (Exit.then (wpF f P Q y) Q) x a w) : wpF f P Q (.seq x y) a w := by
  intro b k cs hro hb
  have h0 : (lone (b.atR a (.code (.seq x y) :: k)) cs w).fenced P Fence.wide := fenced_wide _ _
  obtain ⟨e, a₁, w₁, hq, harr⟩ := h b (.code y :: k) cs hro hb
  cases e with
  | normal =>
    obtain ⟨e₂, a₂, w₂, hq₂, harr₂⟩ := hq b k cs hro hb
    exact ⟨e₂, a₂, w₂, hq₂, .of_steps (.head h0 stepR_seq harr) harr₂⟩
  | exit id => exact ⟨_, a₁, w₁, hq, .of_steps (.one h0 stepR_seq) (.pass (x := .code y) rfl (fun _ _ => .inl (by simp)) harr)⟩
  | goto l => exact ⟨_, a₁, w₁, hq, .of_steps (.one h0 stepR_seq) (.pass (x := .code y) rfl (fun _ _ => .inl (by simp)) harr)⟩
  | ret => exact ⟨_, a₁, w₁, hq, .of_steps (.one h0 stepR_seq) (.pass (x := .code y) rfl (fun _ _ => .inl (by simp)) harr)⟩
  | panic ch => exact ⟨_, a₁, w₁, hq, .of_steps (.one h0 stepR_seq) (.pass (x := .code y) rfl (fun _ _ => .inl (by simp)) harr)⟩
  | outgrown => exact ⟨_, a₁, w₁, hq, .of_steps (.one h0 stepR_seq) (.pass (x := .code y) rfl (fun _ _ => .inl (by simp)) harr)⟩
/-- A stretch ahead, by a walk. -/
theorem wpF_W {f : FuncId} {Q : Exit → Act → World → Prop} {x y : Code} {a : Act} (N : E → World → Prop) (Z : List PanicEntry → World → Prop) (h : W P n [] [.code x] (fun e ρ w => (e = .normal ∧ N ρ w) ∨ ∃ ch, e = .panic ch ∧ Z ch w) ρ w) (hi : inB n x = true) (hr : Rep n a ρ) (hd : a.defers = [])
    (hN : ∀ a1 ρ1 w1, Rep n a1 ρ1 → a1.defers = [] → N ρ1 w1 → wpF f P Q y a1 w1) (hZ : ∀ ch a1 w1, a1.defers = [] → Z ch w1 → Q (.panic ch) a1 w1) : wpF f P Q (.seq x y) a w := by
  refine wpF_seq (wpF_of (wp_W h hi hr hd fun e a1 ρ1 w1 hr1 hl => ?_))
  cases e with
  | normal =>
    obtain ⟨hd1, hq⟩ := hl
    rcases hq with ⟨_, hq⟩ | ⟨ch, hc, _⟩
    · exact hN a1 ρ1 w1 hr1 hd1 hq
    · cases hc
  | panic ch =>
    obtain ⟨hd1, hq⟩ := hl
    rcases hq with ⟨hc, _⟩ | ⟨ch', hc, hz⟩
    · cases hc
    · cases hc; exact hZ ch a1 w1 hd1 hz
  | ret =>
    obtain ⟨_, _, hq⟩ := hl
    rcases hq with ⟨hc, _⟩ | ⟨ch', hc, hz⟩ <;> cases hc
  | _ =>
    obtain ⟨_, hq⟩ := hl
    rcases hq with ⟨hc, _⟩ | ⟨ch', hc, hz⟩ <;> cases hc
theorem wpF_range {f : FuncId} {fn : Func} {Q : Exit → Act → World → Prop} {K : Act → World → Prop} {id : Nat} {g : Operand} {p : Nat} {assign body : Code} {gf : Nat} {lb : List Value} {a : Act} (hf : P.funcs[f]? = some fn) (hg : ev ρ g = some (.func (.func gf) #[] lb.toArray)) (hgf : callOk P gf = true) (hr : Rep n a ρ) (hd : a.defers = [])
    (h : ∀ tmps, Rep n { tmps := tmps, defers := [] } ρ → ∀ D W1, D = w.heap.size → W1 = (w.alloc (.deferred (some []))).alloc (.loop (loopRec f tmps #[p] assign body D)) →
      CallsIn (Fw none) 0 P gf (.func (.yield (D + 1)) #[] #[] :: lb).toArray W1 (RetP
        (fun _ W2 => ∃ r, W2.heap[D + 1]? = some (.loop r) ∧ r.state = .ready ∧ r.pending = none ∧ ∀ W3 a3, W3 = W2.putObj (D + 1) (.loop { r with state := .exhausted }) → Rep n a3 ρ → a3.defers = [{ target := .collected D, args := #[] }] → K a3 W3)
        (fun ch W2 => ∀ a3, Rep n a3 ρ → a3.defers = [{ target := .collected D, args := #[] }] → Q (.panic ch) a3 W2))) :
    wpF f P (Exit.then K Q) (.block id (.rangeFunc g #[p] assign body)) a w := by
  intro b k cs hro hb
  have hrep : Rep n { tmps := a.tmps, defers := [] } ρ := ⟨hr.size, hr.slot⟩
  have hcall := h a.tmps hrep _ _ rfl rfl
  have hev := hr.ev hg
  have he : (Instr.enterLoop b.fn a.tmps #[p] assign body b.roundOf).run P w = .ok (w.heap.size + 1, [{ target := .collected w.heap.size, args := #[] }]) ((w.alloc (.deferred (some []))).alloc (.loop (loopRec f a.tmps #[p] assign body w.heap.size))) := by
    rw [hro, hb]
    exact run_enterLoop_outer _ _ _ _ _
  generalize hW1 : (w.alloc (.deferred (some []))).alloc (.loop (loopRec f a.tmps #[p] assign body w.heap.size)) = W1 at *
  have hres : (resolve a.eval (rangeCall g (w.heap.size + 1)) 0).run P W1 = .ok { target := .fn (.func gf) lb.toArray, args := #[.func (.yield (w.heap.size + 1)) #[] #[]] } W1 := by
    simp only [resolve, hev]
    simp [go_sem]
  have hinv : (invoke (.fn (.func gf) lb.toArray) #[.func (.yield (w.heap.size + 1)) #[] #[]]).run P W1 = .ok (.enter gf (.func (.yield (w.heap.size + 1)) #[] #[] :: lb).toArray) W1 := by
    have hcf := run_callFunc (P := P) (w := W1) (args := (.func (.yield (w.heap.size + 1)) #[] #[] :: lb).toArray) hgf
    have e : (Value.func (.yield (w.heap.size + 1)) #[] #[] :: lb).toArray = #[.func (.yield (w.heap.size + 1)) #[] #[]] ++ lb.toArray := by simp
    rw [e] at hcf ⊢
    simpa [invoke] using hcf
  have hstep0 : StepsIn (Machine.fenced P Fence.wide) P (lone (b.atR a (.code (.block id (.rangeFunc g #[p] assign body)) :: k)) cs w) (lone (b.atR a (.code (.rangeFunc g #[p] assign body) :: .inBlock id :: k)) cs w) := .one (fenced_wide _ _) stepR_block
  have henter := stepR_rangeFunc (P := P) (b := b) (a := a) (k := .inBlock id :: k) (cs := cs) (w := w) he hres hinv
  obtain ⟨e, w₃, fr, hR, hsteps, hfn, hleave⟩ := hcall.2 (b.atR { a with defers := [{ target := .collected w.heap.size, args := #[] }] ++ a.defers } (.inRangeFunc (w.heap.size + 1) :: .inBlock id :: k) :: cs) (room_wide _)
  rcases hR with ⟨v, rfl, r, hl, hs, hpn, hK⟩ | ⟨ch, rfl, hP⟩
  · obtain ⟨st, pe, q1, q2, q3, q4, q5, q6⟩ := r
    simp only at hs hpn
    subst hpn
    have hend := run_endLoop (P := P) hl (by simp [hs])
    have hK' := hK _ { a with defers := [{ target := .collected w.heap.size, args := #[] }] ++ a.defers } rfl ⟨hr.size, hr.slot⟩ (by rw [hd]; rfl)
    refine ⟨.normal, _, _, hK', ?_⟩
    refine hstep0.trans (.head (fenced_wide _ _) henter (StepsIn.trans hsteps (.head (fenced_wide _ _) ?_ (.head (fenced_wide _ _) (stepR_endRangeFunc hend) (.one (fenced_wide _ _) (stepR_inBlock (id := id)))))))
    rw [← finish_atR_inRangeFunc (w.heap.size + 1) v]; exact step_leave_returned hleave
  · have hP' := hP { a with defers := [{ target := .collected w.heap.size, args := #[] }] ++ a.defers } ⟨hr.size, hr.slot⟩ (by rw [hd]; rfl)
    refine ⟨.panic ch, _, w₃, hP', .inRangeFunc (w.heap.size + 1) :: .inBlock id :: k, hstep0.trans (.head (fenced_wide _ _) henter (StepsIn.trans hsteps (.one (fenced_wide _ _) ?_)))⟩
    rw [← Frame.raise_atR]; exact step_leave_panicked hleave
theorem calls_F {f : FuncId} {fn : Func} {c : Code} {args : Array Value} {R : Ending → World → Prop} (hf : P.funcs[f]? = some fn) (hb : fn.body = some c)
    (h : wpF f P (bodyPostM Fence.wide 0 P fn R) c { tmps := args ++ Array.replicate (fn.ntmps - args.size) undef, defers := [] } w) : Calls P f args w R := by
  refine (callsIn_wide (n := 0)).1 ⟨trivial, fun cs hr => ?_⟩
  let b : Frame := { (default : Frame) with fn := f, kind := .normal, roundOf := none }
  have henter : Frame.enter P f args .normal = b.atR { tmps := args ++ Array.replicate (fn.ntmps - args.size) undef, defers := [] } [.code c] := by
    simp [Frame.enter, Frame.atR, hf, hb, b]
  obtain ⟨e, a', w', hq, harr⟩ := h b [] cs rfl rfl
  rw [← henter] at harr
  cases e with
  | normal =>
    obtain ⟨e', w'', fr', hR, hs, hfn, hl⟩ := leaves_stepsInM a'.defers .returning w' { b.atR a' [] with mode := .returning } cs rfl rfl rfl hf rfl trivial hr hq
    exact ⟨e', w'', fr', hR, ComesIn.of_steps (StepsIn.trans harr (.one (fenced_wide _ _) (stepR_end rfl))) hs, hfn, hl⟩
  | ret =>
    obtain ⟨todo, hs₀⟩ := harr.1 rfl
    obtain ⟨e', w'', fr', hR, hs, hfn, hl⟩ := leaves_stepsInM a'.defers .returning w' { b.atR a' todo with mode := .returning } cs rfl rfl rfl hf rfl trivial hr hq
    exact ⟨e', w'', fr', hR, ComesIn.of_steps hs₀ hs, hfn, hl⟩
  | panic chain =>
    obtain ⟨todo, hs₀⟩ := harr
    obtain ⟨e', w'', fr', hR, hs, hfn, hl⟩ := leaves_stepsInM a'.defers (.panicking chain) w' { b.atR a' todo with mode := .panicking chain } cs rfl rfl rfl hf rfl trivial hr hq
    exact ⟨e', w'', fr', hR, ComesIn.of_steps hs₀ hs, hfn, hl⟩
  | exit id => exact hq.elim
  | goto l => exact hq.elim
  | outgrown => exact ⟨.outgrown, w', b, hq, harr.resolve_left (by simp [b]), rfl, trivial⟩
/-- A panic, where a mark lies ahead, and where none lies. -/
theorem leave_panic {fn : Func} {R : Value → World → Prop} {Z : List PanicEntry → World → Prop} {ch : List PanicEntry} {a : Act} (hd : a.defers = []) (h : Z ch w) : bodyPostM Fence.wide 0 P fn (RetP R Z) (.panic ch) a w := by
  show LeavesInM _ _ P fn a.tmps _ a.defers (.panicking ch) w
  rw [hd]
  exact .inr ⟨ch, rfl, h⟩
theorem leave_panicM {fn : Func} {R : Value → World → Prop} {Z : List PanicEntry → World → Prop} {ch : List PanicEntry} {a : Act} {D : Nat} (hd : a.defers = [{ target := .collected D, args := #[] }]) (hD : w.heap[D]? = some (.deferred (some []))) (h : Z ch (w.putObj D (.deferred none))) : bodyPostM Fence.wide 0 P fn (RetP R Z) (.panic ch) a w := by
  show LeavesInM _ _ P fn a.tmps _ a.defers (.panicking ch) w
  rw [hd]
  exact ⟨by simp, .inl ⟨_, _, rfl, run_takeDeferred hD, .inr ⟨ch, rfl, h⟩⟩⟩
theorem leave_endM {fn : Func} {R : Value → World → Prop} {Z : List PanicEntry → World → Prop} {a : Act} {D : Nat} {vs : List Value} (hr : Rep fn.ntmps a ρ) (hv : resT fn.results.toList ρ = some vs) (hd : a.defers = [{ target := .collected D, args := #[] }]) (hD : w.heap[D]? = some (.deferred (some []))) (h : R (resV vs) (w.putObj D (.deferred none))) : bodyPostM Fence.wide 0 P fn (RetP R Z) .normal a w := by
  show LeavesInM _ _ P fn a.tmps _ a.defers .returning w
  rw [hd]
  exact ⟨by simp, .inl ⟨_, _, rfl, run_takeDeferred hD, _, run_results hr hv, .inl ⟨_, rfl, h⟩⟩⟩
theorem Wi.ord {r : Option Nat} {id : Nat} {ops : Array Oper} {Q : Post} (s : Nat) (F : World → Prop) (π : List (Nat × Nat)) (hm : P.follows .mixedOrders = true) (hi : (ops.toList.all fun o => dOk n o.dst) = true) (hdf : noDefer ops.toList = true) (hs : Region.noSelect ops = true) (hlen : π.length = ops.size) (hc : chk ops s π (List.replicate π.length false) = true)
    (h : ∀ w', Kp (fun _ => False) w w' → w'.heap = w.heap → F w' ∧ VW.Ord P n ds ops [.lp (Q .normal)] (fun _ _ _ => False) s F π (List.replicate π.length false) ρ w') : Wi r P n ds (.region id ops true) Q ρ w := by
  intro a hr hd
  refine wpIn_region_any hm ?_
  obtain ⟨hF, h⟩ := h _ (kp_drew w) rfl
  have := h hc hs hi (by rw [List.toArray_replicate]; exact Cl.start _) (fun _ => hF) a hr hd
  rw [List.toArray_replicate, hlen] at this
  exact anyIn (fun c a w h => by obtain ⟨_, _, h⟩ := h; exact h.2) (fun h => by obtain ⟨_, _, _, _, h⟩ := h; exact h.2) (fun a w h => by obtain ⟨ρ', h1, h2, h3⟩ := h; exact ⟨ρ', h1, h2, h3⟩) hdf _ _ _ _ (wpAny_of_I _ _ _ _ this)
end
end Go.Proofs.YtcmjlmnfdncajaaGreatDoor.VW
namespace Go.Proofs.YtcmjlmnfdncajaaGreatDoor
open Go Go.RowKit Go.Proofs.YtcmjlmnfdncajaaGreatDoor.VW Go.Proofs.YtcmjlmnfdncajaaGreatDoor.TW
attribute [local irreducible] W Ops OrdA VW.Ord OrdX Wi OpsI OrdF
theorem descent_c {w : World} {v : Value} {n : Int} : Calls Tryz.prog 64 #[v, .int .i64 n] w (Ret fun r w' => ∃ b1 b2, r = .func (.func 100) #[] #[.pointer (some ⟨b1, 0, none⟩), .pointer (some ⟨b2, 0, none⟩)] ∧ Blk w' b1 (v.cells) 84 ∧ Blk w' b2 #[.int .i64 n] 3 ∧ b1 ≠ b2 ∧ w.heap.size ≤ b1 ∧ w.heap.size ≤ b2 ∧ Below w.heap.size w w') := by
  refine calls_W (vs := [_, _]) Tryz.func64 rfl (by kernel_rfl) rfl ?_
  (repeat (first | with_reducible refine W.seq ?_ | with_reducible refine W.region ?_))
  refine Ops.box rfl rfl rfl rfl (fun w1 b1 hM1 => ?_)
  refine Ops.box rfl rfl rfl rfl (fun w2 b2 hM2 => ?_)
  have e1 := hM1.r_eq
  have e2 := hM2.r_eq
  have s1 := hM1.size
  (repeat (first | with_reducible refine W.seq ?_ | with_reducible refine Ops.nil ?_ | with_reducible refine W.region ?_ | refine z_p (kk := ?_)))
  exact W.fret rfl ⟨b1, b2, rfl, Blk.kp (w := w1) hM1.at_ hM2.kp (fun e => e), hM2.at_, by omega, by omega, by omega, Below.via (Mk.bel hM1) (Mk.bel hM2)⟩
theorem des_zero {a : Od} {n : Nat} : desW bigT 0 a n = none := by cases a <;> rfl
theorem des_nil {f n : Nat} : desW bigT (f + 1) .nil n = some [.nil] := rfl
theorem des_big {f : Nat} {a : Od} {n : Nat} (ha : a ≠ .nil) (h : bigT (stepO a n) = true) : desW bigT (f + 1) a n = none := by
  cases a with
  | nil => exact absurd rfl ha
  | cons e c r => rw [desW, if_pos h]
theorem des_step {f : Nat} {a : Od} {n : Nat} (ha : a ≠ .nil) (h : bigT (stepO a n) = false) : desW bigT (f + 1) a n = (desW bigT f (stepO a n) (n + 1)).map (a :: ·) := by
  cases a with
  | nil => exact absurd rfl ha
  | cons e c r => rw [desW, if_neg (by rw [h]; simp)]
theorem chk_sz {a : Od} (h : bigT a = false) : szO a ≤ 60 := by
  have := of_decide_eq_false h
  omega
set_option maxHeartbeats 4000000 in
theorem descent1_in {b1 b2 lp : Nat} {J : List Od → (Nat → Prop) → World → Prop} {Z : List PanicEntry → World → Prop} (h12 : b1 ≠ b2)
    (hJk : ∀ done own T W W', J done own W → Kp T W W' → (∀ i, T i → i = b1 ∨ i = b2) → J done own W')
    (hJl : ∀ done own W, J done own W → ∀ i, own i → i < W.heap.size ∧ i ≠ b1 ∧ i ≠ b2)
    (hZ : ∀ done own W, J done own W → Z (trb 5) W)
    (hyes : ∀ done own v o W, J done own W → OM (fun i => own i ∨ i = b1 ∨ i = b2) W v o → szO o ≤ 60 → mostO o ≤ 9999 → done.length ≤ 300 → b1 < W.heap.size → b2 < W.heap.size → YieldAt (Fw none) 0 Tryz.prog lp #[v] W (fun e W' => (e = .returned (.bool true) ∧ done.length < 300 ∧ ∃ own', J (done ++ [o]) own' W' ∧ Kp own' W W' ∧ (∀ i, own i → own' i) ∧ (∀ i, own' i → own i ∨ W.heap.size ≤ i)) ∨ (∃ ch, e = .panicked ch ∧ done.length = 300 ∧ Z ch W')))
    {w : World} {own0 : Nat → Prop} {va : Value} {a0 : Od} {n0 : Nat} (hn : n0 ≤ 1000) (hsz : szO a0 ≤ 60) (hmo : mostO a0 ≤ 1000) (B1 : Blk w b1 #[va] 84) (B2 : Blk w b2 #[.int .i64 (n0 : Int)] 3) (hA : OM (fun i => own0 i ∨ i = b1 ∨ i = b2) w va a0) (h0 : J [] own0 w) :
    CallsIn (Fw none) 0 Tryz.prog 100 #[.func (.yield lp) #[] #[], .pointer (some ⟨b1, 0, none⟩), .pointer (some ⟨b2, 0, none⟩)] w
      (RetP (fun _ w' => ∃ l own', desW bigT 300 a0 n0 = some l ∧ J l own' w') (fun ch w' => desW bigT 300 a0 n0 = none ∧ Z ch w')) := by
  refine callsIn_WiP (vs := [_, _, _]) Tryz.func100 rfl rfl ?_
  refine Wi.sub (ρ' := [(0, .func (.yield lp) #[] #[]), (1, .pointer (some ⟨b1, 0, none⟩)), (2, .pointer (some ⟨b2, 0, none⟩))]) (by repeat (first | exact trivial | refine And.intro rfl ?_)) ?_
  refine Wi.block (Wi.loop (m := 300) (fun m ρ w1 => ∃ (done : List Od) (own : Nat → Prop) (v : Value) (a : Od) (n : Nat), m = 300 - done.length ∧ done.length ≤ 300 ∧ ρ = [(0, .func (.yield lp) #[] #[]), (1, .pointer (some ⟨b1, 0, none⟩)), (2, .pointer (some ⟨b2, 0, none⟩))] ∧
      J done own w1 ∧ OM (fun i => own i ∨ i = b1 ∨ i = b2) w1 v a ∧ szO a ≤ 60 ∧ mostO a ≤ 1400 ∧ n = n0 + done.length ∧ Blk w1 b1 #[v] 84 ∧ Blk w1 b2 #[.int .i64 (n : Int)] 3 ∧ desW bigT 300 a0 n0 = (desW bigT (300 - done.length) a n).map (done ++ ·))
    ⟨[], own0, va, a0, n0, rfl, Nat.zero_le _, rfl, h0, hA, hsz, by omega, rfl, B1, B2, by show desW bigT 300 a0 n0 = (desW bigT 300 a0 n0).map _; cases desW bigT 300 a0 n0 <;> rfl⟩ ?_)
  clear B1 B2 hA h0 hsz hmo
  rintro m ρ w1 ⟨done, own, v, a, n, rfl, hdl, rfl, hJ, hA, hsz, hmo, hnn, B1, B2, heq⟩
  have hb11 : Below w1.heap.size w1 w1 := Below.refl _ _
  refine Wi.seq (Wi.seq (Wi.region ?_))
  refine OpsI.splitP 2 rfl rfl rfl rfl ?_
  (repeat (first | refine z_p (kk := ?_) | refine z_d (kk := ?_)))
  refine Ops.nil (W.endl ?_)
  obtain ⟨fn, tmps, assign, body, hr, hR⟩ := hyes done own v a w1 hJ hA hsz (by omega) hdl B1.lt B2.lt
  refine OpsI.yieldP rfl rfl rfl rfl rfl rfl ⟨fn, tmps, assign, body, hr, hR.mono fun e W' he => ?_⟩
  rcases he with ⟨rfl, hlt, own', hJ', k1, hoo, hon⟩ | ⟨ch, rfl, hlen, hz⟩
  rotate_left
  · refine .inr ⟨ch, rfl, .inr ⟨ch, rfl, ?_, hz⟩⟩
    rw [heq, show 300 - done.length = 0 by omega, des_zero]; rfl
  refine .inl ⟨rfl, ?_⟩
  obtain ⟨f, hf⟩ : ∃ f, 300 - done.length = f + 1 := ⟨299 - done.length, by omega⟩
  have hown : ∀ i, own' i → i ≠ b1 ∧ i ≠ b2 := fun i hi => (hJl _ _ _ hJ' i hi).2
  have B1' := B1.kp k1 (fun e => (hown _ e).1 rfl)
  have B2' := B2.kp k1 (fun e => (hown _ e).2 rfl)
  have hA' : OM (fun i => own' i ∨ i = b1 ∨ i = b2) W' v a := (hA.more (S' := fun i => own' i ∨ i = b1 ∨ i = b2) (fun i hi => by
    rcases hi with hi | hi
    · rcases hon i hi with q | q
      · exact .inl (.inl q)
      · exact .inr q
    · exact .inl (.inr hi))).kp k1 (fun i hi => .inl hi)
  have hbW : Below W'.heap.size W' W' := Below.refl _ _
  obtain ⟨la, hRa, hAa⟩ := id hA'
  have hla := hAa.len
  obtain ⟨Aa, ca, hva⟩ := hRa.sh
  subst hva
  clear hJ hA B1 B2 hR hb11
  refine OpsI.splitP 5 rfl rfl rfl rfl ?_
  (repeat (first | refine z_p (kk := ?_) | refine z_y (kk := ?_) | refine z_l (kk := ?_) | refine z_d (kk := ?_)))
  refine Ops.nil (W.endl (OpsI.nil ?_))
  by_cases ha : a = .nil
  · subst ha
    have hl0 : la.length = 0 := hla
    refine Wi.cond rfl (fun hc => ?_) (fun _ => Wi.exit ?_)
    · have := of_decide_eq_true hc; omega
    show ite _ _ _
    rw [if_pos rfl]
    refine .inl ⟨.inl rfl, _, rfl, done ++ [.nil], own', ?_, hJ'⟩
    rw [heq, hf, des_nil]; rfl
  · have hl0 : 0 < la.length := Nat.pos_of_ne_zero (fun h => ha (lenO_zero.1 (by omega)))
    refine Wi.cond rfl (fun _ => Wi.skip ?_) (fun hc => ?_)
    rotate_left
    · have := of_decide_eq_false hc; omega
    refine Wi.block (Wi.seq (Wi.regionP rfl rfl ?_))
    (repeat (first | refine z_d (kk := ?_)))
    refine Ops.call rfl rfl rfl rfl rfl (step_c 60 hsz (by omega) ha (by omega) (by omega) (fun i hi => by rcases hi with hi | rfl | rfl; exact (hJl _ _ _ hJ' i hi).1; exact B1'.lt; exact B2'.lt) hA') (fun vs w2 hR => ?_)
    obtain ⟨hM2, hb2⟩ := hR
    have hss := step_sz a n
    have hsm := step_most a n
    have hss2 : szO a * (szO a + 1) ≤ 60 * 61 := Nat.mul_le_mul hsz (by omega)
    refine Ops.callP rfl rfl rfl rfl rfl (checked_c hM2 (by omega)) (fun r w3 hR => ?_) (fun ch w3 hR => ?_)
    rotate_left
    · obtain ⟨rfl, hbig, hb3⟩ := hR
      refine .inr ⟨_, rfl, ?_, hZ _ _ _ (hJk _ _ _ _ _ hJ' (kpF (Below.via hb2 hb3)) (fun _ e => e.elim))⟩
      rw [heq, hf, des_big ha hbig]; rfl
    obtain ⟨rfl, hbig, hb3⟩ := hR
    have hb23 := Below.via hb2 hb3
    have hM3 := hM2.below hb3
    have hvs := hM3.one
    refine Ops.st rfl rfl rfl rfl rfl rfl hvs (B1'.kp (kpF hb23) (fun e => e)) (by simp) (fun w4 hu4 => ?_)
    have hJ4 := hJk _ _ _ _ _ (hJk _ _ _ _ _ hJ' (kpF hb23) (fun _ e => e.elim)) hu4.kp (fun i e => .inl e)
    have B14 : Blk w4 b1 #[r] 84 := by simpa using hu4.blk
    have B24 := (B2'.kp (kpF hb23) (fun e => e)).kp hu4.kp (fun e => h12 e.symm)
    have hb44 : Below w4.heap.size w4 w4 := Below.refl _ _
    have hM4 := hM3.kp hu4.kp (fun i e => .inr (.inl e))
    refine Ops.nil (W.endl (Wi.regionP rfl rfl ?_))
    (repeat (first | refine z_a (kk := ?_) | refine z_d (kk := ?_)))
    refine Ops.st rfl rfl rfl rfl rfl rfl rfl B24 (by simp) (fun w5 hu5 => ?_)
    have hJ5 := hJk _ _ _ _ _ hJ4 hu5.kp (fun i e => .inr e)
    have B15 := B14.kp hu5.kp (fun e => h12 e)
    have B25 : Blk w5 b2 #[.int .i64 ((n : Int) + 1)] 3 := by simpa using hu5.blk
    have hM5 := hM4.kp hu5.kp (fun i e => .inr (.inr e))
    refine Ops.nil (W.endl ⟨_, _, ⟨⟨done ++ [a], own', r, stepO a n, n + 1, rfl, by rw [List.length_append, List.length_singleton]; omega, rfl, hJ5, hM5, chk_sz hbig, by omega, by rw [List.length_append, List.length_singleton]; omega, B15, B25, ?_⟩, by rw [List.length_append, List.length_singleton]; omega⟩, (by repeat (first | exact trivial | refine And.intro rfl ?_))⟩)
    rw [heq, hf, des_step ha hbig, List.length_append, List.length_singleton, show 300 - (done.length + 1) = f by omega]
    cases desW bigT f (stepO a n) (n + 1) with
    | none => rfl
    | some l => simp
end Go.Proofs.YtcmjlmnfdncajaaGreatDoor
namespace Go.Proofs.YtcmjlmnfdncajaaGreatDoor
open Go Go.RowKit Go.Proofs.YtcmjlmnfdncajaaGreatDoor.VW Go.Proofs.YtcmjlmnfdncajaaGreatDoor.TW
attribute [local irreducible] W Ops OrdA VW.Ord OrdX Wi OpsI OrdF
theorem wpF_descents {f : FuncId} {fn : Func} {nT id p : Nat} {gx : Operand} {assign body : Code} {Q : Exit → Act → World → Prop} {K : Act → World → Prop} {a : Act} {ρ : E} {wE : World} {c1 c2 : Nat} {va : Value} {a0 : Od} {n0 : Nat} {own0 : Nat → Prop} {I : List Od → (Nat → Prop) → World → Prop}
    (hf : Tryz.prog.funcs[f]? = some fn) (hg : ev ρ gx = some (.func (.func 100) #[] #[.pointer (some ⟨c1, 0, none⟩), .pointer (some ⟨c2, 0, none⟩)])) (hp : Nat.blt p nT = true) (hr : Rep nT a ρ) (hd : a.defers = [])
    (h12 : c1 ≠ c2) (C1 : Blk wE c1 #[va] 84) (C2 : Blk wE c2 #[.int .i64 (n0 : Int)] 3) (hn : n0 ≤ 1000) (hsz : szO a0 ≤ 60) (hmo : mostO a0 ≤ 1000) (hA : OM (fun i => own0 i ∨ i = c1 ∨ i = c2) wE va a0)
    (hIk : ∀ done own T W W', I done own W → Kp T W W' → (∀ i, T i → i = c1 ∨ i = c2 ∨ i = wE.heap.size ∨ i = wE.heap.size + 1) → I done own W')
    (hIl : ∀ done own W, I done own W → wE.heap.size + 2 ≤ W.heap.size → ∀ i, own i → i < W.heap.size ∧ i ≠ c1 ∧ i ≠ c2 ∧ i ≠ wE.heap.size ∧ i ≠ wE.heap.size + 1) (h0 : I [] own0 wE)
    (hround : ∀ L done own v o W, L = wE.heap.size + 1 → I done own W → szO o ≤ 60 → mostO o ≤ 9999 → done.length ≤ 300 → wE.heap.size + 2 ≤ W.heap.size →
      Wi (some L) Tryz.prog nT [] assign (fun e ρ1 w1 => e = .normal ∧ w1 = W ∧ ∀ W', I done own W' → OM own W' v o → W'.heap.size = W.heap.size → Wi (some L) Tryz.prog nT [] body (fun e ρ2 w2 => ∃ own' done', I done' own' w2 ∧ Kp own' W' w2 ∧ (∀ i, own i → own' i) ∧ (∀ i, own' i → own i ∨ W'.heap.size ≤ i) ∧ ((e = .normal ∧ done.length < 300 ∧ done' = done ++ [o]) ∨ (e = .panic (trb 5) ∧ done.length = 300))) ρ1 W') ((p, v) :: ρ) W)
    (hdone : ∀ W3 a3 own l, desW bigT 300 a0 n0 = some l → I l own W3 → W3.heap[wE.heap.size]? = some (.deferred (some [])) → Rep nT a3 ρ → a3.defers = [{ target := .collected wE.heap.size, args := #[] }] → K a3 W3)
    (hpan : ∀ W3 a3 done own, desW bigT 300 a0 n0 = none → I done own W3 → W3.heap[wE.heap.size]? = some (.deferred (some [])) → a3.defers = [{ target := .collected wE.heap.size, args := #[] }] → Q (.panic (trb 5)) a3 W3) :
    wpF f Tryz.prog (Exit.then K Q) (.block id (.rangeFunc gx #[p] assign body)) a wE := by
  refine wpF_range (lb := [.pointer (some ⟨c1, 0, none⟩), .pointer (some ⟨c2, 0, none⟩)]) (gf := 100) hf hg (Fns.call (P := Tryz.prog) (by exact rfl)) hr hd (fun tmps hrep D W1 hD hW1 => ?_)
  subst hD hW1
  have c1l := C1.lt
  have c2l := C2.lt
  have ka := (mk_alloc wE (.deferred (some []))).kp
  have kb := (mk_alloc (wE.alloc (.deferred (some []))) (.loop (loopRec f tmps #[p] assign body wE.heap.size))).kp
  have kab : Kp (fun _ => False) wE ((wE.alloc (.deferred (some []))).alloc (.loop (loopRec f tmps #[p] assign body wE.heap.size))) := (ka.trans kb).mono fun k _ e => by rcases e with e | e <;> exact e.elim
  have h1 := hIk _ _ _ _ _ h0 kab (fun _ e => e.elim)
  have hsz1 : (wE.alloc (.deferred (some []))).heap.size = wE.heap.size + 1 := (mk_alloc wE _).size
  have hsz2 : ((wE.alloc (.deferred (some []))).alloc (.loop (loopRec f tmps #[p] assign body wE.heap.size))).heap.size = wE.heap.size + 2 := by rw [(mk_alloc (wE.alloc (.deferred (some []))) _).size, hsz1]
  have hD1 : ((wE.alloc (.deferred (some []))).alloc (.loop (loopRec f tmps #[p] assign body wE.heap.size))).heap[wE.heap.size]? = some (.deferred (some [])) := at_kp (mk_alloc wE (.deferred (some []))).at_ kb (fun e => e)
  have hL1 : ((wE.alloc (.deferred (some []))).alloc (.loop (loopRec f tmps #[p] assign body wE.heap.size))).heap[wE.heap.size + 1]? = some (.loop (loopRec f tmps #[p] assign body wE.heap.size)) := by
    have := (mk_alloc (wE.alloc (.deferred (some []))) (.loop (loopRec f tmps #[p] assign body wE.heap.size))).at_
    rw [hsz1] at this
    exact this
  have C11 := C1.kp kab (fun e => e)
  have C21 := C2.kp kab (fun e => e)
  have hA1 : OM (fun i => (own0 i ∨ i = wE.heap.size + 1) ∨ i = c1 ∨ i = c2) ((wE.alloc (.deferred (some []))).alloc (.loop (loopRec f tmps #[p] assign body wE.heap.size))) va a0 := (hA.more (S' := fun i => (own0 i ∨ i = wE.heap.size + 1) ∨ i = c1 ∨ i = c2) (fun i h => by
    rcases h with (h | h) | h
    · exact .inl (.inl h)
    · exact .inr (by omega)
    · exact .inl (.inr h))).kp kab (fun _ e => e.elim)
  refine CallsIn.mono (descent1_in (lp := wE.heap.size + 1) (own0 := fun x => own0 x ∨ x = wE.heap.size + 1) (Z := fun ch W => ch = trb 5 ∧ ∃ done own, I done own W ∧ W.heap[wE.heap.size]? = some (.deferred (some []))) h12 (J := fun done own W => ∃ own1, (∀ x, own x ↔ own1 x ∨ x = wE.heap.size + 1) ∧ I done own1 W ∧ W.heap[wE.heap.size]? = some (.deferred (some [])) ∧ W.heap[wE.heap.size + 1]? = some (.loop (loopRec f tmps #[p] assign body wE.heap.size)) ∧ wE.heap.size + 2 ≤ W.heap.size)
    (fun done own T W W' h k hT => ?_) (fun done own W h => ?_) (fun done own W h => ?_) (fun done own v o W h hM hs hm hl l1 l2 => ?_) hn hsz hmo C11 C21 hA1 ⟨own0, fun x => Iff.rfl, h1, hD1, hL1, by omega⟩) ?_
  · obtain ⟨own1, q1, q3, q4, q5, q6⟩ := h
    have hT' : ∀ i, T i → i < wE.heap.size := fun i hi => by rcases hT i hi with e | e <;> omega
    exact ⟨own1, q1, hIk _ _ _ _ _ q3 k (fun i hi => by rcases hT i hi with e | e; exact .inl e; exact .inr (.inl e)), at_kp q4 k (fun e => by have := hT' _ e; omega), at_kp q5 k (fun e => by have := hT' _ e; omega), by have := k.size; omega⟩
  · obtain ⟨own1, q1, q3, q4, q5, q6⟩ := h
    intro i hi
    rcases (q1 i).1 hi with e | e
    · have := hIl _ _ _ q3 q6 i e
      exact ⟨this.1, this.2.1, this.2.2.1⟩
    · omega
  · obtain ⟨own1, q1, q3, q4, q5, q6⟩ := h
    exact ⟨rfl, _, _, q3, q4⟩
  · obtain ⟨own1, q1, q3, q4, q5, q6⟩ := h
    have hLlt := (Array.getElem?_eq_some_iff.1 q5).1
    refine round_inP hf q5 hrep hp ((hround _ done own1 v o W rfl q3 hs hm hl q6).mono ?_)
    rintro e ρ1 w1 ⟨rfl, rfl, hb⟩
    refine ⟨rfl, _, q5, rfl, ?_⟩
    have hk := kp_putObj (w := w1) (r := wE.heap.size + 1) (.loop { (loopRec f tmps #[p] assign body wE.heap.size) with state := .busy })
    have hks : (w1.putObj (wE.heap.size + 1) (.loop { (loopRec f tmps #[p] assign body wE.heap.size) with state := .busy })).heap.size = w1.heap.size := by simp [World.putObj]
    have hMb : OM own1 (w1.putObj (wE.heap.size + 1) (.loop { (loopRec f tmps #[p] assign body wE.heap.size) with state := .busy })) v o := (hM.kp hk (fun i e => .inl ((q1 i).2 (.inr e)))).more (fun i e => .inl (.inl ((q1 i).2 (.inl e))))
    refine (hb _ (hIk _ _ _ _ _ q3 hk (fun k e => .inr (.inr (.inr e)))) hMb hks).mono ?_
    rintro e ρ2 w2 ⟨own2, done', r1, r2, r3, r4, hor⟩
    have hs2 := r2.size
    have hne : ∀ x, own2 x → x ≠ wE.heap.size ∧ x ≠ wE.heap.size + 1 := fun x hx => by
      have := hIl _ _ _ r1 (by omega) x hx
      exact ⟨this.2.2.2.1, this.2.2.2.2⟩
    have hl2 : w2.heap[wE.heap.size + 1]? = some (.loop { (loopRec f tmps #[p] assign body wE.heap.size) with state := .busy }) := at_kp (World.putObj_heap_same hLlt) r2 (fun e => (hne _ e).2 rfl)
    have hd2 : w2.heap[wE.heap.size]? = some (.deferred (some [])) := at_kp (at_kp q4 hk (fun e => by omega)) r2 (fun e => (hne _ e).1 rfl)
    have hlt2 := (Array.getElem?_eq_some_iff.1 hl2).1
    rcases hor with ⟨rfl, hlt, rfl⟩ | ⟨rfl, hlen⟩
    · have hk3 := kp_putObj (w := w2) (r := wE.heap.size + 1) (.loop (loopRec f tmps #[p] assign body wE.heap.size))
      refine .inl ⟨rfl, _, hl2, .inl ⟨rfl, hlt, fun x => own2 x ∨ x = wE.heap.size + 1, ⟨own2, fun x => Iff.rfl, hIk _ _ _ _ _ r1 hk3 (fun k e => .inr (.inr (.inr e))), at_kp hd2 hk3 (fun e => by omega), World.putObj_heap_same hlt2, ?_⟩, ?_, fun x hx => ?_, fun x hx => ?_⟩⟩
      · have : (w2.putObj (wE.heap.size + 1) (.loop (loopRec f tmps #[p] assign body wE.heap.size))).heap.size = w2.heap.size := by simp [World.putObj]
        show _ ≤ (w2.putObj _ _).heap.size
        rw [this]; omega
      · exact ((hk.trans r2).trans hk3).mono (fun i _ e => by rcases e with (e | e) | e; exact .inr e; exact .inl e; exact .inr e)
      · rcases (q1 x).1 hx with e | e
        · exact .inl (r3 x e)
        · exact .inr e
      · rcases hx with e | e
        · rcases r4 x e with e2 | e2
          · exact .inl ((q1 x).2 (.inl e2))
          · rw [hks] at e2; exact .inr e2
        · exact .inl ((q1 x).2 (.inr e))
    · exact .inr ⟨_, rfl, .inr ⟨_, rfl, hlen, rfl, _, _, r1, hd2⟩⟩
  · rintro e W2 (⟨v, rfl, l, own', hdes, own1, q1, q3, q4, q5, q6⟩ | ⟨ch, rfl, hdes, rfl, done, own, q3, q4⟩)
    · refine .inl ⟨v, rfl, _, q5, rfl, rfl, ?_⟩
      rintro W3 a3 rfl hr3 hd3
      have hk3 := kp_putObj (w := W2) (r := wE.heap.size + 1) (.loop { (loopRec f tmps #[p] assign body wE.heap.size) with state := .exhausted })
      exact hdone _ _ own1 l hdes (hIk _ _ _ _ _ q3 hk3 (fun k e => .inr (.inr (.inr e)))) (at_kp q4 hk3 (fun e => by omega)) hr3 hd3
    · exact .inr ⟨_, rfl, fun a3 hr3 hd3 => hpan _ _ _ _ hdes q3 q4 hd3⟩
end Go.Proofs.YtcmjlmnfdncajaaGreatDoor
namespace Go.Proofs.YtcmjlmnfdncajaaGreatDoor
open Go Go.RowKit Go.Proofs.YtcmjlmnfdncajaaGreatDoor.VW Go.Proofs.YtcmjlmnfdncajaaGreatDoor.TW
attribute [local irreducible] W Ops OrdA VW.Ord OrdX Wi OpsI OrdF
def desR (s : List UInt8) (n : Int) : Except Int (List Od) := match rdA s with
  | none => .error 4
  | some a => if 0 ≤ n ∧ n ≤ 1000 then (match desW bigT 300 a n.toNat with
    | none => .error 5
    | some l => .ok l) else .error 2
/-- The list that a round of the descent appends to. -/
structure DI (w : World) (lc NL : Nat) (done : List Od) (own : Nat → Prop) (W : World) : Prop where
  lv : ∃ lv, Blk W lc #[lv] 24 ∧ LO 9 S NL W lv (done.map txO) ∧ ∀ i, lv.ownBlock = some i → own i
  olc : own lc
  ow : ∀ i, own i → i < W.heap.size ∧ (i = lc ∨ NL ≤ i)
  bel : Below w.heap.size w W
theorem DI.kp {w : World} {lc NL : Nat} {done : List Od} {own T : Nat → Prop} {W W' : World} (h : DI w lc NL done own W) (k : Kp T W W') (hT : ∀ i, T i → i < NL ∧ i ≠ lc ∧ w.heap.size ≤ i) : DI w lc NL done own W' := by
  obtain ⟨lv, h1, h2, h3⟩ := h.lv
  have hs := k.size
  exact ⟨⟨lv, h1.kp k (fun e => (hT _ e).2.1 rfl), h2.kp k (fun i hi e => by have := h2.ge i hi; have := hT i e; omega), h3⟩, h.olc, fun i hi => by have := h.ow i hi; omega, Below.put h.bel k (fun i hi => (hT i hi).2.2)⟩
set_option maxHeartbeats 8000000 in
theorem Descent1_c {w : World} {b0 b1 b2 : Nat} {s : List UInt8} {n : Int} (hs : s.length ≤ 4294967295) (hT : Tbl w)
    (B0 : Blk w b0 #[S s] 9) (B1 : Blk w b1 #[.int .i64 n] 3) (B2 : Blk w b2 #[.slice none 0 0] 24) :
    Calls Tryz.prog 60 #[.pointer (some ⟨b0, 0, none⟩), .pointer (some ⟨b1, 0, none⟩), .pointer (some ⟨b2, 0, none⟩)] w
      (RetP (fun _ w' => Kp (fun i => i = b2) w w' ∧ ∃ x, desR s n = .ok x ∧ ∃ v, Blk w' b2 #[v] 24 ∧ LO 9 S w.heap.size w' v (x.map txO)) (fun ch w' => ∃ e, ch = trb e ∧ Kp (fun i => i = b2) w w' ∧ desR s n = .error e ∧ Kp (fun _ => False) w w')) := by
  refine calls_F Tryz.func60 rfl ?_
  have hb2l := B2.lt
  refine wpF_W (n := Tryz.f60.ntmps) (ρ := argE [.pointer (some ⟨b0, 0, none⟩), .pointer (some ⟨b1, 0, none⟩), .pointer (some ⟨b2, 0, none⟩)] 0) (N := fun ρ w1 => ∃ va a, rdA s = some a ∧ OM (fun i => i < w.heap.size) w1 va a ∧ Below w.heap.size w w1 ∧ Sub [(0, .pointer (some ⟨b0, 0, none⟩)), (1, .pointer (some ⟨b1, 0, none⟩)), (2, .pointer (some ⟨b2, 0, none⟩)), (3, va)] ρ) (Z := fun ch w1 => ∃ e, ch = trb e ∧ Kp (fun i => i = b2) w w1 ∧ desR s n = .error e ∧ Kp (fun _ => False) w w1) ?_ (by kernel_rfl) (rep_arg (vs := [_, _, _]) (Nat.le_of_ble_eq_true rfl)) rfl ?_ (fun ch a1 w1 hd hz => leave_panic hd hz)
  · (repeat (first | with_reducible refine W.region ?_ | refine z_d (kk := ?_)))
    refine Ops.callP rfl rfl rfl rfl rfl (readOrdinal_c hs) (fun va w1 hR => ?_) (fun ch w1 hR => ?_)
    · obtain ⟨a, ha, hA, hb1⟩ := hR
      (repeat (first | with_reducible refine Ops.nil ?_ | refine z_p (kk := ?_)))
      exact W.fin (.inl ⟨rfl, va, a, ha, hA, hb1, (by repeat (first | exact trivial | refine And.intro rfl ?_))⟩)
    · obtain ⟨rfl, h1, hb1⟩ := hR
      exact .inr ⟨_, rfl, 4, rfl, (kpF hb1).mono (fun _ _ e => e.elim), by unfold desR; rw [h1], kpF hb1⟩
  rintro a1 ρ1 w1 hr1 hd1 ⟨va, a, ha, hA1, hb1, hs1⟩
  replace hr1 := hr1.sub hs1
  clear hs1
  obtain ⟨na, sa, za⟩ := rdA_spec ha
  have hma := small_most sa
  refine wpF_W (n := Tryz.f60.ntmps) (N := fun ρ w2 => w2 = w1 ∧ (0 ≤ n ∧ n ≤ 1000) ∧ Sub [(0, .pointer (some ⟨b0, 0, none⟩)), (1, .pointer (some ⟨b1, 0, none⟩)), (2, .pointer (some ⟨b2, 0, none⟩)), (3, va)] ρ) (Z := fun ch w1 => ∃ e, ch = trb e ∧ Kp (fun i => i = b2) w w1 ∧ desR s n = .error e ∧ Kp (fun _ => False) w w1) ?_ (by kernel_rfl) hr1 hd1 ?_ (fun ch a1 w1 hd hz => leave_panic hd hz)
  · have B11 := B1.kp (kpF hb1) (fun e => e)
    (repeat (first | with_reducible refine W.region ?_ | refine z_d (kk := ?_)))
    refine Ops.callS rfl rfl rfl rfl rfl (within_c _ _ _ _) ?_
    skip
    refine Ops.callP rfl rfl rfl rfl rfl (demand_c _ _ _) (fun r w2 hR => ?_) (fun ch w2 hR => ?_)
    · obtain ⟨hb, hw⟩ := hR
      (repeat (first | with_reducible refine Ops.nil ?_))
      exact W.fin (.inl ⟨rfl, hw, of_decide_eq_true hb, (by repeat (first | exact trivial | refine And.intro rfl ?_))⟩)
    · obtain ⟨hb, rfl, rfl⟩ := hR
      have h2 := of_decide_eq_false hb
      exact .inr ⟨_, rfl, 2, rfl, (kpF hb1).mono (fun _ _ e => e.elim), by unfold desR; rw [ha]; simp only; rw [if_neg h2], kpF hb1⟩
  rintro a2 ρ2 w2 hr2 hd2 ⟨hw2, hn, hs2⟩
  subst w2
  replace hr2 := hr2.sub hs2
  clear hs2 hr1 hd1 a1 ρ1
  obtain ⟨n0, rfl⟩ : ∃ n0 : Nat, n = (n0 : Int) := ⟨n.toNat, by omega⟩
  have hdr : desR s (n0 : Int) = match desW bigT 300 a n0 with | none => .error 5 | some l => .ok l := by
    unfold desR
    rw [ha]
    simp only
    rw [if_pos hn, Int.toNat_natCast]
  refine wpF_W (n := Tryz.f60.ntmps) (N := fun ρ w2 => ∃ lc, Mk w1 w2 lc (.cells #[.slice none 0 0] 24) ∧ Sub [(0, .pointer (some ⟨b0, 0, none⟩)), (1, .pointer (some ⟨b1, 0, none⟩)), (2, .pointer (some ⟨b2, 0, none⟩)), (3, va), (4, .pointer (some ⟨lc, 0, none⟩))] ρ) (Z := fun _ _ => False) ?_ (by kernel_rfl) hr2 hd2 ?_ (fun ch a1 w1 hd hz => hz.elim)
  · refine W.region ?_
    refine Ops.alloc rfl rfl rfl rfl (fun w2 lc hM => ?_)
    (repeat (first | with_reducible refine Ops.nil ?_))
    exact W.fin (.inl ⟨rfl, lc, hM, (by repeat (first | exact trivial | refine And.intro rfl ?_))⟩)
  rintro a3 ρ3 w2 hr3 hd3 ⟨lc, hM2, hs3⟩
  replace hr3 := hr3.sub hs3
  clear hs3 hr2 hd2 a2 ρ2
  refine wpF_seq (wpF_W (n := Tryz.f60.ntmps) (N := fun ρ w3 => ∃ c1 c2, Blk w3 c1 va.cells 84 ∧ Blk w3 c2 #[.int .i64 (n0 : Int)] 3 ∧ c1 ≠ c2 ∧ w2.heap.size ≤ c1 ∧ w2.heap.size ≤ c2 ∧ Below w2.heap.size w2 w3 ∧ Sub [(2, .pointer (some ⟨b2, 0, none⟩)), (4, .pointer (some ⟨lc, 0, none⟩)), (13, .func (.func 100) #[] #[.pointer (some ⟨c1, 0, none⟩), .pointer (some ⟨c2, 0, none⟩)])] ρ) (Z := fun _ _ => False) ?_ (by kernel_rfl) hr3 hd3 ?_ (fun ch a1 w1 hd hz => hz.elim))
  · have B12 := B1.kp (kpF (Below.via hb1 (Mk.bel hM2))) (fun e => e)
    (repeat (first | with_reducible refine W.region ?_ | refine z_p (kk := ?_) | refine z_d (kk := ?_)))
    refine Ops.call rfl rfl rfl rfl rfl descent_c (fun r w3 hR => ?_)
    obtain ⟨c1, c2, rfl, C1, C2, hne, hl1, hl2, hb3⟩ := hR
    (repeat (first | with_reducible refine Ops.nil ?_))
    exact W.fin (.inl ⟨rfl, c1, c2, C1, C2, hne, hl1, hl2, hb3, (by repeat (first | exact trivial | refine And.intro rfl ?_))⟩)
  rintro a4 ρ4 w3 hr4 hd4 ⟨c1, c2, C1, C2, hne, hl1, hl2, hb3, hs4⟩
  replace hr4 := hr4.sub hs4
  clear hs4 hr3 hd3 a3 ρ3
  obtain ⟨Av, la, cv, rfl⟩ : ∃ A m c, va = .slice A m c := by
    obtain ⟨l, hR, _⟩ := hA1
    obtain ⟨A, c, rfl⟩ := hR.sh
    exact ⟨_, _, _, rfl⟩
  have hb13 : Below w1.heap.size w1 w3 := Below.via (Mk.bel hM2) hb3
  have hb03 : Below w.heap.size w w3 := Below.via hb1 hb13
  have e2 := hM2.r_eq
  have s1 := hb1.size
  have s2 := hM2.size
  have s3 := hb3.size
  have c1l := C1.lt
  have c2l := C2.lt
  have hA3 : OM (fun i => i = lc ∨ i = c1 ∨ i = c2) w3 (.slice Av la cv) a := (hA1.more (fun i h => .inr (by omega))).below hb13
  have LC : Blk w3 lc #[.slice none 0 0] 24 := Blk.kp (w := w2) hM2.at_ (kpF hb3) (fun e => e)
  have hlt3 := hT.lt
  refine wpF_descents (nT := Tryz.f60.ntmps) (c1 := c1) (c2 := c2) (va := .slice Av la cv) (a0 := a) (n0 := n0) (own0 := fun i => i = lc) (I := DI w lc (w3.heap.size + 2)) Tryz.func60 rfl rfl hr4 hd4 hne C1 C2 (by omega) za hma hA3
    (fun done own T W W' h k hT => h.kp k (fun i hi => by rcases hT i hi with e | e | e | e <;> omega)) (fun done own W h hsz i hi => by have := h.ow i hi; omega)
    ⟨⟨_, LC, LO.nil, fun i h => by simp [Value.ownBlock] at h⟩, rfl, fun i hi => by subst hi; have := LC.lt; omega, hb03⟩ ?_ ?_ ?_
  · intro L done own v o Wr hL hI hz hm hdl hWs
    refine Wi.regionN rfl rfl ?_
    (repeat (first | with_reducible refine Ops.nil ?_ | refine z_p (kk := ?_)))
    refine W.endl ⟨rfl, rfl, fun W' hI' hM hsz => ?_⟩
    obtain ⟨lv, h1, h2, h3⟩ := hI'.lv
    have hTW : Tbl W' := hT.below hI'.bel
    have hlcl := h1.lt
    have hlen : (done.map txO).length = done.length := List.length_map _
    refine Wi.block (Wi.seq (Wi.ord 5 (fun wf => Blk wf lc #[lv] 24) [(0, 2), (1, 1), (2, 0), (3, 0), (4, 0), (5, 0)] rfl (by kernel_rfl) rfl (by kernel_rfl) rfl (by kernel_rfl) (fun w4 k4 _ => ⟨h1.kp k4 (fun e => e), ?_⟩)))
    have hb4 : Below W'.heap.size W' w4 := Below.put (Below.refl _ _) k4 (fun _ e => e.elim)
    refine VW.Ord.read' rfl rfl rfl rfl (fun _ _ _ h => h) (fun w hF => EV.ld rfl rfl rfl (Blk.cell hF rfl)) ?_
    refine VW.Ord.pure rfl rfl rfl rfl (fun _ _ _ h => h) (fun w => EV.pu rfl) ?_
    refine VW.Ord.effF rfl (Ops.call rfl rfl rfl rfl rfl (text_c _ (Nat.le_refl _) (by omega) hm (hTW.below hb4) (hM.below hb4)) (fun r w5 hR => ?_))
    obtain ⟨rfl, hb45⟩ := hR
    have hb5 := Below.via hb4 hb45
    have hw5 := hb5.size
    have L5 : Blk w5 lc #[lv] 24 := h1.kp (kpF hb5) (fun e => e)
    refine Ops.nil (W.endl ⟨L5, ?_⟩)
    refine VW.Ord.pushO (enc := S) (u := txO o) rfl rfl rfl rfl rfl rfl rfl rfl rfl rfl rfl rfl rfl rfl (fun _ => rfl) rfl ((h2.below hb5).base (by omega)) (by omega) (fun wa wb T hF kk hT => Blk.kp hF kk (fun e => by have := hT _ e; rw [tr_size (by omega)] at this; have := LC.lt; omega)) L5 (fun lv' p w5b L5b hO5 k5 hn5 => ?_)
    replace hO5 := LO.put hO5 (by omega)
    have hlv' := hO5.sh
    obtain ⟨A5, c5, rfl⟩ := hlv'
    refine VW.Ord.eff rfl (Ops.st rfl rfl rfl rfl rfl rfl rfl L5b (by simp) (fun w6 hu6 => Ops.nil (W.endl ⟨fun hh => (by cases hh), ?_⟩)))
    have L6 : Blk w6 lc #[_] 24 := hu6.blk
    have hO6 := hO5.kp hu6.kp (fun i hi e => by have := hO5.ge i hi; have := LC.lt; omega)
    refine VW.Ord.nil ?_
    have k46 : Kp (fun i => own i) W' w6 := (((kpF hb5).trans k5).trans hu6.kp).mono (fun i hi e => by
      rcases e with (e | e) | e
      · exact e.elim
      · exact h3 i e
      · rw [e]; exact hI'.olc)
    have hbel6 : Below w.heap.size w w6 := Below.put hI'.bel k46 (fun i hi => by have := hI'.ow i hi; omega)
    have hw46 := k46.size
    have hI6 : DI w lc (w3.heap.size + 2) (done ++ [o]) (fun i => own i ∨ (Value.slice A5 (done.map txO ++ [txO o]).length c5).ownBlock = some i) w6 := ⟨⟨_, L6, by rw [List.map_append]; exact hO6, fun i hi => .inr hi⟩, .inl hI'.olc, fun i hi => by
      rcases hi with hi | hi
      · have := hI'.ow i hi; omega
      · have := (hO6.own.lt i hi).2; have := hO6.ge i hi; omega, hbel6⟩
    have hon : ∀ i, (own i ∨ (Value.slice A5 (done.map txO ++ [txO o]).length c5).ownBlock = some i) → own i ∨ W'.heap.size ≤ i := fun i hi => by
      rcases hi with hi | hi
      · exact .inl hi
      · rcases hn5 i hi with q | q
        · exact .inl (h3 i q)
        · exact .inr (by omega)
    have hlen2 : (done.map txO ++ [txO o]).length = done.length + 1 := by rw [List.length_append, hlen]; rfl
    rw [hlen2] at L6 hI6 hon
    refine W.endl ?_
    have hb66 : Below w6.heap.size w6 w6 := Below.refl _ _
    refine Wi.regionP rfl rfl ?_
    (repeat (first | refine z_p (kk := ?_) | refine z_l (kk := ?_) | refine z_d (kk := ?_)))
    refine Ops.callP rfl rfl rfl rfl rfl (demand_c _ _ _) (fun r w7 hR => ?_) (fun ch w7 hR => ?_)
    · obtain ⟨hb, hw⟩ := hR
      subst w7
      have := of_decide_eq_true hb
      refine Ops.nil (W.endl ⟨_, _, hI6, k46.mono (fun i _ e => .inl e), fun i hi => .inl hi, hon, .inl ⟨rfl, by omega, rfl⟩⟩)
    · obtain ⟨hb, hw, rfl⟩ := hR
      subst w7
      have := of_decide_eq_false hb
      exact ⟨_, _, hI6, k46.mono (fun i _ e => .inl e), fun i hi => .inl hi, hon, .inr ⟨rfl, by omega⟩⟩
  · intro W3 a5 own l hdes hI hD hr5 hd5
    obtain ⟨lv, h1, h2, h3⟩ := hI.lv
    have hx : desR s (n0 : Int) = .ok l := by rw [hdr, hdes]
    have B23 : Blk W3 b2 #[.slice none 0 0] 24 := B2.kp (kpF hI.bel) (fun e => e)
    obtain ⟨Al, cl, rfl⟩ := h2.sh
    have hb33 : Below W3.heap.size W3 W3 := Below.refl _ _
    refine wpF_of (wp_W (n := Tryz.f60.ntmps) (ds := [{ target := .collected w3.heap.size, args := #[] }]) (Φ := fun e ρ w' => e = .normal ∧ Kp (fun i => i = b2) W3 w' ∧ Blk w' b2 #[.slice Al (l.map txO).length cl] 24) ?_ (by kernel_rfl) hr5 hd5 ?_)
    · (repeat (first | with_reducible refine W.region ?_ | refine z_d (kk := ?_)))
      refine Ops.st rfl rfl rfl rfl rfl rfl rfl B23 (by simp) (fun w6 hu6 => ?_)
      (repeat (first | with_reducible refine Ops.nil ?_))
      exact W.fin ⟨rfl, hu6.kp, by simpa using hu6.blk⟩
    · intro e a6 ρ6 w6 hr6 hl
      cases e with
      | normal =>
        obtain ⟨hd6, _, k6, B26⟩ := hl
        have hlk := kp_putObj (w := w6) (r := w3.heap.size) (.deferred none)
        refine leave_endM hr6 rfl hd6 (at_kp hD k6 (fun e => by omega)) ⟨?_, l, hx, _, B26.kp hlk (fun e => by omega), ((h2.kp k6 (fun i hi e => by have := h2.ge i hi; omega)).kp hlk (fun i hi e => by have := h2.ge i hi; omega)).down (by omega)⟩
        exact (((kpF hI.bel).trans k6).trans hlk).mono (fun i hi e => by rcases e with (e | e) | e; exact e.elim; exact e; omega)
      | ret =>
        obtain ⟨_, _, h, _⟩ := hl
        cases h
      | _ =>
        obtain ⟨_, h, _⟩ := hl
        cases h
  · intro W3 a5 done own hdes hI hD hd5
    have hlk := kp_putObj (w := W3) (r := w3.heap.size) (.deferred none)
    have k := ((kpF hI.bel).trans hlk).mono (S' := fun _ => False) (fun i hi e => by rcases e with e | e; exact e; omega)
    exact leave_panicM hd5 hD ⟨5, rfl, k.mono (fun _ _ e => e.elim), by rw [hdr, hdes], k⟩
end Go.Proofs.YtcmjlmnfdncajaaGreatDoor
namespace Go.Proofs.YtcmjlmnfdncajaaGreatDoor
open Go Go.RowKit Go.Proofs.YtcmjlmnfdncajaaGreatDoor.VW Go.Proofs.YtcmjlmnfdncajaaGreatDoor.TW
attribute [local irreducible] W Ops OrdA VW.Ord OrdX Wi OpsI OrdF
def outL : Except Int (List Od) → List Od
  | .ok x => x
  | .error _ => []
set_option maxHeartbeats 4000000 in
theorem Descent_c {w : World} {s : List UInt8} {n : Int} (hs : s.length ≤ 4294967295) (hT : Tbl w) :
    Calls Tryz.prog 17 #[S s, .int .i64 n] w (Ret fun r w' => ∃ v, r = .tuple #[v, .int .i64 (outE (desR s n))] ∧ LO 9 S w.heap.size w' v ((outL (desR s n)).map txO) ∧ Below w.heap.size w w') := by
  refine calls_W (vs := [_, _]) Tryz.func17 rfl (by kernel_rfl) rfl ?_
  (repeat (first | with_reducible refine W.seq ?_ | with_reducible refine W.region ?_))
  refine Ops.box rfl rfl rfl rfl (fun w1 b0 hM1 => ?_)
  refine Ops.box rfl rfl rfl rfl (fun w2 b1 hM2 => ?_)
  refine Ops.alloc rfl rfl rfl rfl (fun w4 b3 hM4 => ?_)
  have hb24 := Mk.bel hM4
  have hb14 := Below.via (Mk.bel hM2) hb24
  have hb04 := Below.via (Mk.bel hM1) hb14
  have B0 : Blk w4 b0 #[S s] 9 := Blk.kp (w := w1) (hM1.at_) (kpF hb14) (fun e => e)
  have B1 : Blk w4 b1 #[.int .i64 n] 3 := Blk.kp (w := w2) (hM2.at_) (kpF hb24) (fun e => e)
  have B3 : Blk w4 b3 #[.slice none 0 0] 24 := hM4.at_
  have e3 := hM4.r_eq
  have s1 := hM1.size
  have s2 := hM2.size
  have s4 := hM4.size
  (repeat (first | with_reducible refine W.seq ?_ | with_reducible refine Ops.nil ?_ | with_reducible refine W.region ?_ | refine z_p (kk := ?_)))
  refine Ops.call rfl rfl rfl rfl rfl (guard_c (F := 60) (caps := [.pointer (some ⟨b0, 0, none⟩), .pointer (some ⟨b1, 0, none⟩), .pointer (some ⟨b3, 0, none⟩)]) (T := fun i => i = b3) (N := fun w1 w' => ∃ x, desR s n = .ok x ∧ ∃ v, Blk w' b3 #[v] 24 ∧ LO 9 S w1.heap.size w' v (x.map txO)) (E' := fun w1 w' e => desR s n = .error e ∧ Kp (fun _ => False) w1 w') rfl (fun i h => by omega) (fun w5 hlt hb5 => Descent1_c hs (hT.below (Below.via hb04 hb5)) (B0.kp (kpF hb5) (fun e => e)) (B1.kp (kpF hb5) (fun e => e)) (B3.kp (kpF hb5) (fun e => e)))) (fun r w' hR => ?_)
  obtain ⟨w5, w6, hlt, hb5, k56, k67, hor⟩ := hR
  have hfin : ∃ v e, LO 9 S w4.heap.size w' v ((outL (desR s n)).map txO) ∧ e = outE (desR s n) ∧ r = .int .i64 e ∧ Blk w' b3 #[v] 24 := by
    rcases hor with ⟨rfl, x, h1, v, C3, hO⟩ | ⟨e, rfl, h1, h2⟩
    · have f1 := hO.ge
      refine ⟨v, 0, ?_, by rw [h1]; rfl, rfl, C3.kp k67 (fun h => by omega)⟩
      rw [h1]
      exact (hO.kp k67 (fun i hi e => by have := f1 i hi; omega)).down (by omega)
    · refine ⟨_, e, ?_, by rw [h1]; rfl, rfl, ((B3.kp (kpF hb5) (fun e => e)).kp h2 (fun e => e)).kp k67 (fun h => by omega)⟩
      rw [h1]; exact LO.nil
  obtain ⟨v, e, hO, he, rfl, C3⟩ := hfin
  have hb0' : Below w.heap.size w w' := Below.put (Below.put (Below.via hb04 hb5) k56 (fun i h => by omega)) k67 (fun i h => by omega)
  have hbww : Below w'.heap.size w' w' := Below.refl _ _
  obtain ⟨A1, c1, hv1⟩ := hO.sh
  have o1 : v.oneCell' = true := by rw [hv1]; rfl
  have f1 := hO.ge
  rw [← he]
  (repeat (first | with_reducible refine W.seq ?_ | with_reducible refine Ops.nil ?_ | with_reducible refine W.region ?_ | refine z_p (kk := ?_) | refine z_d (kk := ?_)))
  refine Ops.st rfl rfl rfl rfl rfl rfl o1 C3 (by simp) (fun w7 hu => ?_)
  have B7 : Blk w7 b3 #[v] 24 := by simpa using hu.blk
  (repeat (first | with_reducible refine Ops.nil ?_ | refine z_p (kk := ?_)))
  exact W.fretW (vs := [_, _]) ⟨_, _, rfl, ⟨b3, 0, _, 24, rfl, rfl, B7, rfl⟩, _, _, rfl, rfl, rfl⟩ ⟨v, rfl, (hO.kp hu.kp (fun i hi e => by have := f1 i hi; omega)).down (by omega), Below.put hb0' hu.kp (fun i h => by omega)⟩
end Go.Proofs.YtcmjlmnfdncajaaGreatDoor
/- Plain: hydras. -/
namespace Go.Proofs.YtcmjlmnfdncajaaGreatDoor.TW
/-- The children of a node: the first one's children, and the others. -/
inductive Fo where
  | nil
  | cons (k r : Fo)
def heF : Fo → Nat
  | .nil => 0
  | .cons k r => max 1 (heF k) + heF r
def szF : Fo → Nat
  | .nil => 0
  | .cons k r => 1 + szF k + szF r
def txF : Fo → By
  | .nil => []
  | .cons k r => 40 :: (txF k ++ 41 :: txF r)
def txH (f : Fo) : By := 40 :: (txF f ++ [41])
def apF : Fo → Fo → Fo
  | .nil, b => b
  | .cons k r, b => .cons k (apF r b)
def lenF : Fo → Nat
  | .nil => 0
  | .cons k r => lenF r + 1
def repF (n : Nat) (k r : Fo) : Fo := match n with
  | 0 => r
  | n + 1 => .cons k (repF n k r)
def chF : Fo → Nat → Nat → Fo × Bool
  | .nil, _, _ => (.nil, false)
  | .cons k r, head, n => if max 1 (heF k) ≤ head then (.cons k (chF r (head - max 1 (heF k)) n).1, (chF r (head - max 1 (heF k)) n).2)
      else match k with
        | .nil => (r, true)
        | .cons k2 r2 => (.cons (chF (.cons k2 r2) head n).1 (if (chF (.cons k2 r2) head n).2 = true then repF n (chF (.cons k2 r2) head n).1 r else r), false)
theorem chF_past {k r : Fo} {head n : Nat} (h : max 1 (heF k) ≤ head) : chF (.cons k r) head n = (.cons k (chF r (head - max 1 (heF k)) n).1, (chF r (head - max 1 (heF k)) n).2) := by
  rw [chF.eq_def]
  simp only
  rw [if_pos h]
theorem chF_head {r : Fo} {n : Nat} : chF (.cons .nil r) 0 n = (r, true) := by
  rw [chF.eq_def]
  simp only
  rw [if_neg (by simp [heF])]
theorem chF_in {k r : Fo} {head n : Nat} (h : ¬ max 1 (heF k) ≤ head) (hk : k ≠ .nil) : chF (.cons k r) head n = (.cons (chF k head n).1 (if (chF k head n).2 = true then repF n (chF k head n).1 r else r), false) := by
  rw [chF.eq_def]
  simp only
  rw [if_neg h]
  cases k with
  | nil => exact absurd rfl hk
  | cons k2 r2 => rfl
def rdFo : Nat → By → Option (Fo × By)
  | 0, _ => none
  | n + 1, s => match pre [40] s with
    | none => some (.nil, s)
    | some t => match rdFo n t with
      | none => none
      | some (k, u) => match pre [41] u with
        | none => none
        | some v => (rdFo n v).map (fun q => (.cons k q.1, q.2))
def rdHy (n : Nat) (s : By) : Option (Fo × By) := match pre [40] s with
  | none => none
  | some t => match rdFo n t with
    | none => none
    | some (k, u) => (pre [41] u).map (fun v => (k, v))
theorem rdFo_none {n : Nat} {s : By} (h : pre [40] s = none) : rdFo (n + 1) s = some (.nil, s) := by
  simp only [rdFo, h]
theorem rdFo_some {n : Nat} {s t : By} (h : pre [40] s = some t) : rdFo (n + 1) s = match rdHy n s with
    | none => none
    | some (k, v) => (rdFo n v).map (fun q => (.cons k q.1, q.2)) := by
  simp only [rdFo, rdHy, h]
  cases h1 : rdFo n t with
  | none => simp
  | some q =>
    obtain ⟨k, u⟩ := q
    simp only
    cases h2 : pre [41] u with
    | none => simp
    | some v => simp
theorem rdFo_len : ∀ {n : Nat} {s t : By} {f : Fo}, rdFo n s = some (f, t) → t.length ≤ s.length
  | 0, s, t, f, h => by simp [rdFo] at h
  | n + 1, s, t, f, h => by
    cases hp : pre [40] s with
    | none =>
      rw [rdFo_none hp] at h
      simp only [Option.some.injEq, Prod.mk.injEq] at h
      rw [h.2]; exact Nat.le_refl _
    | some t1 =>
      have hl := pre_len hp
      simp only [rdFo, hp] at h
      split at h
      · simp at h
      · rename_i k u h1
        have l1 := rdFo_len h1
        split at h
        · simp at h
        · rename_i v h2
          have l2 := pre_len h2
          cases h3 : rdFo n v with
          | none => rw [h3] at h; simp at h
          | some q =>
            rw [h3] at h
            simp only [Option.map_some, Option.some.injEq, Prod.mk.injEq] at h
            have l3 := rdFo_len (t := q.2) (f := q.1) h3
            rw [← h.2]
            simp only [List.length_cons, List.length_nil] at hl l2
            omega
theorem rdHy_len {n : Nat} {s t : By} {f : Fo} (h : rdHy n s = some (f, t)) : t.length + 2 ≤ s.length := by
  unfold rdHy at h
  split at h
  · simp at h
  · rename_i t1 hp
    have hl := pre_len hp
    split at h
    · simp at h
    · rename_i k u h1
      have l1 := rdFo_len h1
      cases h2 : pre [41] u with
      | none => rw [h2] at h; simp at h
      | some v =>
        have l2 := pre_len h2
        rw [h2] at h
        simp only [Option.map_some, Option.some.injEq, Prod.mk.injEq] at h
        rw [← h.2]
        simp only [List.length_cons, List.length_nil] at hl l2
        omega
theorem szF_ap : ∀ (a b : Fo), szF (apF a b) = szF a + szF b
  | .nil, b => by simp [apF, szF]
  | .cons k r, b => by simp only [apF, szF, szF_ap r b]; omega
theorem heF_ap : ∀ (a b : Fo), heF (apF a b) = heF a + heF b
  | .nil, b => by simp [apF, heF]
  | .cons k r, b => by simp only [apF, heF, heF_ap r b]; omega
theorem lenF_ap : ∀ (a b : Fo), lenF (apF a b) = lenF a + lenF b
  | .nil, b => by simp [apF, lenF]
  | .cons k r, b => by simp only [apF, lenF, lenF_ap r b]; omega
theorem apF_nil : ∀ (a : Fo), apF a .nil = a
  | .nil => rfl
  | .cons k r => by rw [apF, apF_nil r]
theorem apF_assoc : ∀ (a b c : Fo), apF (apF a b) c = apF a (apF b c)
  | .nil, b, c => rfl
  | .cons k r, b, c => by simp only [apF, apF_assoc r b c]
theorem lenF_sz : ∀ (a : Fo), lenF a ≤ szF a
  | .nil => Nat.le_refl _
  | .cons k r => by have := lenF_sz r; simp only [lenF, szF]; omega
theorem heF_sz : ∀ (a : Fo), heF a ≤ szF a
  | .nil => Nat.le_refl _
  | .cons k r => by have := heF_sz r; have := heF_sz k; simp only [heF, szF]; omega
theorem repF_sz : ∀ (n : Nat) (k r : Fo), szF (repF n k r) = n * (1 + szF k) + szF r
  | 0, k, r => by simp [repF]
  | n + 1, k, r => by
    simp only [repF, szF, repF_sz n k r, Nat.succ_mul]
    omega
/-- The hydra that a string is. -/
def rdHA (s : By) : Option Fo := match rdHy (s.length + 1) s with
  | some (f, []) => if 1 + szF f ≤ 200 then some f else none
  | _ => none
def chopR (s : By) (head n : Int) : Except Int By := match rdHA s with
  | none => .error 4
  | some f => if (0 ≤ head ∧ head ≤ (heF f : Int) - 1) ∧ 0 ≤ n ∧ n ≤ 1000 then
      (if 1 + szF (chF f head.toNat n.toNat).1 ≤ 200 then .ok (txH (chF f head.toNat n.toNat).1) else .error 5) else .error 2
end Go.Proofs.YtcmjlmnfdncajaaGreatDoor.TW
/- Slices of slices: their elements as triples; copies and appends in a block. -/
namespace Go.Proofs.YtcmjlmnfdncajaaGreatDoor.VW
open Go Go.RowKit
abbrev HS := Option Addr × Nat × Nat
def eH (h : HS) : Value := .slice h.1 h.2.1 h.2.2
/-- It reads as l, and no block of S is read. -/
def R1 (S : Nat → Prop) (w : World) (v : Value) (l : List HS) : Prop := ∃ A c, v = .slice A l.length c ∧ (l.length ≤ c ∧ l.length ≤ 140737488355328) ∧ (0 < l.length → ∃ a : Addr, A = some a ∧ ¬ S a.block ∧ ∀ j, j < l.length → w.cell? (a.add j) = some (eH (l.getD j default)))
theorem R1.nil {S : Nat → Prop} {w : World} {A : Option Addr} {c : Nat} : R1 S w (.slice A 0 c) [] := ⟨A, c, rfl, ⟨Nat.zero_le _, Nat.zero_le _⟩, fun h => by simp at h⟩
theorem R1.bd {S : Nat → Prop} {w : World} {v : Value} {l : List HS} (h : R1 S w v l) : l.length ≤ 140737488355328 := by obtain ⟨_, _, _, h, _⟩ := h; exact h.2
theorem R1.sh {S : Nat → Prop} {w : World} {v : Value} {l : List HS} (h : R1 S w v l) : ∃ A c, v = .slice A l.length c := ⟨h.choose, h.choose_spec.choose, h.choose_spec.choose_spec.1⟩
theorem R1.sl {S : Nat → Prop} {w : World} {v : Value} {l : List HS} (h : R1 S w v l) : Sl eH default w v l := by
  obtain ⟨A, c, rfl, h0, h⟩ := h
  exact ⟨by omega, A, c, rfl, fun hp => by obtain ⟨a, rfl, _, hc⟩ := h hp; exact ⟨a, rfl, hc⟩⟩
theorem R1.kp {S T : Nat → Prop} {w w' : World} {v : Value} {l : List HS} (h : R1 S w v l) (k : Kp T w w') (hT : ∀ i, T i → S i) : R1 S w' v l := by
  obtain ⟨A, c, rfl, h0, h⟩ := h
  refine ⟨A, c, rfl, h0, fun hp => ?_⟩
  obtain ⟨a, rfl, hS, hc⟩ := h hp
  exact ⟨a, rfl, hS, fun j hj => cell_kp k (hc j hj) (by rw [add_block]; exact fun e => hS (hT _ e))⟩
theorem R1.below {S : Nat → Prop} {w w' : World} {v : Value} {l : List HS} (h : R1 S w v l) (k : Below w.heap.size w w') : R1 S w' v l := h.kp (Kp.of_below (S := fun _ => False) k) (fun _ e => e.elim)
theorem R1.more {S S' : Nat → Prop} {w : World} {v : Value} {l : List HS} (h : R1 S w v l) (hS : ∀ i, S' i → S i ∨ w.heap.size ≤ i) : R1 S' w v l := by
  obtain ⟨A, c, rfl, h0, h⟩ := h
  refine ⟨A, c, rfl, h0, fun hp => ?_⟩
  obtain ⟨a, rfl, hn, hc⟩ := h hp
  refine ⟨a, rfl, fun e => ?_, hc⟩
  rcases hS _ e with e | e
  · exact hn e
  · have := World.block_lt_of_cell? w _ (hc 0 hp)
    rw [add_block] at this
    omega
theorem OI.r1 {S : Nat → Prop} {e : Nat} {w0 w : World} {v : Value} {l : List HS} (h : OI e eH w0 w v l) (hl : l.length ≤ 140737488355328) (hS : ∀ i, v.ownBlock = some i → ¬ S i) : R1 S w v l := by
  have hs := h.sl (z := (default : HS))
  obtain ⟨_, A, c, rfl, hc⟩ := hs
  refine ⟨A, c, rfl, ⟨own_cap h.own, hl⟩, fun hp => ?_⟩
  obtain ⟨a, rfl, hcell⟩ := hc hp
  exact ⟨a, rfl, hS _ rfl, hcell⟩
section
variable {P : Program} [hT : Tab P] {n : Nat} {ds : List Deferred} {Φ : Post} {k : List It} {ρ : E} {w : World} {all : Array Oper} {l : List Oper} {md : Option (List Oper)} {s : Nat} {F : World → Prop} {π : List (Nat × Nat)} {L : List Bool}
/-- An element. -/
theorem z_H {S : Nat → Prop} {o1 o2 : Oper} {d1 d2 t t' e : Nat} {x y : Operand} {v : Value} {i : Nat} {xs : List HS} {w0 : World} {c1 c2 : Bool}
    (ho : o1.op = .indexAddr t x y := by exact rfl) (hd1 : o1.dst = some d1 := by exact rfl) (hg1 : gdB all ρ o1.guard = some c1 := by exact rfl) (hc1 : c1 = true := by exact rfl)
    (ho2 : o2.op = .load t' (.tmp d1) := by exact rfl) (hd2 : o2.dst = some d2 := by exact rfl) (hg2 : ∀ p, gdB all ((d1, .pointer p) :: ρ) o2.guard = some c2 := by exact fun _ => rfl) (hc2 : c2 = true := by exact rfl)
    (ht : tyD P t = some (.slice e) := by exact rfl) (hs : tyS P e = some 1 := by exact rfl) (ha : tyAgg P t' = some false := by exact rfl) (hx : ev ρ x = some v := by exact rfl) (hy : ev ρ y = some (.int .i64 (i : Int)) := by exact rfl) (hR : R1 S w0 v xs := by assumption) (hb : Below w0.heap.size w0 w := by first | assumption | exact Below.refl _ _) (h1 : i < xs.length := by omega)
    (kk : ∀ p, Ops md P n ds all k Φ l ((d2, eH (xs.getD i default)) :: (d1, p) :: ρ) w) : Ops md P n ds all k Φ (o1 :: o2 :: l) ρ w := by
  obtain ⟨A, c, rfl, _, h⟩ := hR.below hb
  obtain ⟨a, rfl, _, hc⟩ := h (by omega)
  refine Ops.evG hd1 hg1 hc1 (EV.idx ho ht hs hx hy (by omega) (by omega)) ?_
  refine Ops.evG hd2 (hg2 _) hc2 (EV.ld ho2 ha (ev_top _ _ _) ?_) (kk _)
  rw [Int.toNat_natCast, Nat.mul_one]
  exact hc i h1
/-- x[q:], of elements of one cell. -/
def slE (A : Option Addr) (m c q : Nat) : Value := .slice (if c = q then A else A.map fun p => p.add q) (m - q) (c - q)
theorem EV.slE {o : Oper} {t e m c q : Nat} {x y : Operand} {A : Option Addr} (ho : o.op = .slice t x (some y) none none) (ht : tyD P t = some (.slice e)) (hs : tyS P e = some 1) (hx : ev ρ x = some (.slice A m c)) (hy : ev ρ y = some (.int .i64 (q : Int))) (hq : q ≤ m) : EV P n ρ w o (VW.slE A m c q) := by
  intro a hr
  unfold VW.slE
  simp [execOp, ho, hr.ev hx, hr.ev hy, Instr.sliceAt, Instr.slice, Instr.sliceBounds, Instr.sliceBound, asIntOf, run_und (td_slice (tyD_ok ht)), run_sizeOf hs, hq]
theorem EV.slQ {o : Oper} {t e sz m c p q : Nat} {x y z : Operand} {A : Option Addr} (ho : o.op = .slice t x (some y) (some z) none) (ht : tyD P t = some (.slice e)) (hs : tyS P e = some sz) (hx : ev ρ x = some (.slice A m c)) (hy : ev ρ y = some (.int .i64 (p : Int))) (hz : ev ρ z = some (.int .i64 (q : Int))) (hpq : p ≤ q) (hq : q ≤ c) : EV P n ρ w o (.slice (if c = p then A else A.map fun a => a.add (p * sz)) (q - p) (c - p)) := by
  intro a hr
  simp [execOp, ho, hr.ev hx, hr.ev hy, hr.ev hz, Instr.sliceAt, Instr.slice, Instr.sliceBounds, Instr.sliceBound, asIntOf, run_und (td_slice (tyD_ok ht)), run_sizeOf hs, hpq, hq]
theorem R1.drop {S : Nat → Prop} {w : World} {A : Option Addr} {m c q : Nat} {l : List HS} (hR : R1 S w (.slice A m c) l) (hq : q ≤ m) : R1 S w (VW.slE A m c q) (l.drop q) := by
  obtain ⟨A2, c2, he, h0, hR⟩ := hR
  simp only [Value.slice.injEq] at he
  obtain ⟨rfl, rfl, rfl⟩ := he
  refine ⟨_, _, by rw [List.length_drop]; rfl, by rw [List.length_drop]; omega, fun hp => ?_⟩
  rw [List.length_drop] at hp
  obtain ⟨a, rfl, h1, h2⟩ := hR (by omega)
  refine ⟨a.add q, by rw [if_neg (by omega)]; rfl, by rw [add_block]; exact h1, fun j hj => ?_⟩
  rw [List.length_drop] at hj
  rw [add_add, h2 (q + j) (by omega)]
  simp [List.getD_eq_getElem?_getD]
theorem kp_setRow {w : World} {g : Nat} {cur : Array Value} : Kp (fun i => i = g) w (w.setRow g cur) := ⟨rfl, rfl, rfl, by simp [World.setRow], fun i hi hn => setRow_other w g i _ (by omega)⟩
/-- copy(x[off:..], y), in a block. -/
theorem Ops.cpB {o : Oper} {d t t' e e' g off dl dc sl sc : Nat} {x y : Operand} {a : Addr} {cur : Array Value} {cs : List Value} (ho : o.op = .call { callee := .builtin .copy, args := #[x, y], argTypes := #[t, t'] }) (hd : o.dst = some d) (hg : o.guard = none)
    (ht : tyD P t = some (.slice e)) (hs : tyS P e = some 1) (hx : ev ρ x = some (.slice (some ⟨g, off, none⟩) dl dc)) (hy : ev ρ y = some (.slice (some a) sl sc)) (hB : Blk w g cur e') (hn : cs.length = Nat.min sl dl) (hsrc : ∀ j v, cs[j]? = some v → w.cell? (a.add j) = some v) (hfit : off + cs.length ≤ cur.size) (h1 : ∀ v ∈ cs, v.oneCell' = true)
    (hk : ∀ w', Blk w' g (cur.toList.take off ++ cs ++ cur.toList.drop (off + cs.length)).toArray e' → Kp (fun i => i = g) w w' → Ops none P n ds all k Φ l ((d, .int .i64 (cs.length : Nat)) :: ρ) w') : Ops none P n ds all k Φ (o :: l) ρ w := by
  obtain ⟨f, hi, h3⟩ := tyS_ok hs
  have hsz : (P.info? e).map (·.size) = some 1 := by rw [hi]; simp [h3]
  have hrun := run_copy_row (P := P) w t t' o.type e g off dl dc a sl sc cur e' cs (td_slice (tyD_ok ht)) hsz hB hn hsrc hfit h1
  refine Ops.val hd hg (fun a hr => ?_) (hk _ (setRow_heap w g cur _ e' _ hB) kp_setRow)
  simp [execOp, ho, resolve, invoke, builtin, hr.ev hx, hr.ev hy, hrun, Result.andThen, goInt]
theorem append_ty {t u ty e e2 sz : Nat} {args : Array Value} (ht : tyD P t = some (.slice e)) (hs : tyS P e = some sz) (hu : tyD P u = some (.slice e2)) : (Builtin.append_ #[t, u] ty args).run P w = (Builtin.append_ #[t, t] ty args).run P w := by
  have h1 := run_und (P := P) (w := w) (td_slice (tyD_ok ht))
  have h2 := run_und (P := P) (w := w) (td_slice (tyD_ok hu))
  unfold Builtin.append_
  cases h3 : args[0]? with
  | none => simp [h3]
  | some a0 =>
    cases h4 : args[1]? with
    | none => simp [h3, h4]
    | some a1 =>
      cases a0 <;> simp [h3, h4, run_und (td_slice (tyD_ok ht)), run_und (td_slice (tyD_ok hu)), run_sizeOf hs]
/-- append(s, t...), at two types of slices. -/
theorem Ops.appU {α : Type} {enc : α → Value} {z0 : α} {o : Oper} {d t u e e2 by' : Nat} {x y : Operand} {v yv z : Value} {nn : Nat} {xs : List Value} {ys : List α} (ho : o.op = .call { callee := .builtin .append, args := #[x, y], argTypes := #[t, u] }) (hd : o.dst = some d) (hg : o.guard = none)
    (ht : tyD P t = some (.slice e)) (hu : tyD P u = some (.slice e2)) (hs : tyS P e = some 1) (hb : tyB P e = some (by' + 1)) (hz : tyZ P e = some z) (hzs : z.cells.size = 1) (hx : ev ρ x = some v) (hy : ev ρ y = some yv)
    (hown : w.ownsRow 0 e 1 v nn xs) (hys : Sl enc z0 w yv ys) (hp : 0 < ys.length) (h1 : ∀ u, (enc u).oneCell' = true) (hbytes : (nn + ys.length) * (by' + 1) ≤ 140737488355328)
    (hk : ∀ v' w', w'.ownsRow 0 e 1 v' (nn + ys.length) (xs ++ ys.map enc) → Kp (fun i => v.ownBlock = some i) w w' → (∀ i, v'.ownBlock = some i → v.ownBlock = some i ∨ w.heap.size ≤ i) → Ops none P n ds all k Φ l ((d, v') :: ρ) w') : Ops none P n ds all k Φ (o :: l) ρ w := by
  obtain ⟨hm, A, c, rfl, hc⟩ := hys
  obtain ⟨a, rfl, hc2⟩ := hc hp
  obtain ⟨v', w', hr, h2, h3, h4⟩ := run_app (P := P) (w := w) (ty' := o.type) (m := ys.length) (c := c) (A := a) (news := ys.map enc) (sz := 0) ht hs hb hz hzs hown (by simp) (fun j u hu => by
    rw [List.getElem?_map] at hu
    by_cases hj : j < ys.length
    · rw [hc2 j hj]
      simp [hj] at hu
      simp [← hu, List.getD_eq_getElem?_getD, hj]
    · rw [List.getElem?_eq_none (by omega)] at hu
      simp at hu) (by simp; exact fun u _ => h1 u) hbytes
  refine Ops.val hd hg (fun a hr' => ?_) (hk v' w' h2 h3 h4)
  simp [execOp, ho, resolve, invoke, builtin, hr'.ev hx, hr'.ev hy, append_ty ht hs hu, hr]
/-- append(x[:k], make([]T, m)...), where there is no room. -/
theorem Ops.appM {o : Oper} {d t u e by' m nn c g : Nat} {x y : Operand} {z : Value} {olds : List Value} {kk : IntKind} (ho : o.op = .call { callee := .builtin .append, args := #[x, y], argTypes := #[t, u] }) (hd : o.dst = some d) (hg : o.guard = none)
    (ht : tyD P t = some (.slice e)) (hu : tyD P u = some (.int kk)) (hs : tyS P e = some 1) (hb : tyB P e = some (by' + 1)) (hz : tyZ P e = some z) (hzc : z.cells = #[z]) (hx : ev ρ x = some (.slice (some ⟨g, 0, none⟩) nn c)) (hy : ev ρ y = some (.int .i64 (m : Int))) (h0 : 0 < m) (hc : c < nn + m) (hnc : nn ≤ c) (h1 : (nn + m) * (by' + 1) ≤ 140737488355328)
    (hlo : olds.length = nn) (holds : ∀ j v, olds[j]? = some v → w.cell? ((⟨g, 0, none⟩ : Addr).add j) = some v)
    (hk : ∀ r c' w', w.heap.size ≤ r → w'.ownsRow 0 e 1 (.slice (some ⟨r, 0, none⟩) (nn + m) c') (nn + m) (olds ++ List.replicate m z) → Kp (fun _ => False) w w' → Ops none P n ds all k Φ l ((d, .slice (some ⟨r, 0, none⟩) (nn + m) c') :: ρ) w') : Ops none P n ds all k Φ (o :: l) ρ w := by
  obtain ⟨f, hi, h2, h3, h4⟩ := tyE_ok hs hb hz
  have h5 : nn + m ≤ (nn + m) * (by' + 1) := Nat.le_mul_of_pos_right _ (by omega)
  have h63 : (m : Int) ≤ 9223372036854775807 := by omega
  have hw : IntKind.i64.wrap (m : Int) = m := wrap_in ⟨by omega, h63⟩
  have hge : nn + m ≤ grownCap w (nn + m) c e := grownCap_ge w (nn + m) c e
  have hle : grownCap w (nn + m) c e ≤ maxLen := grownCap_le_maxLen w (nn + m) c e (by simp only [maxLen]; omega)
  have hnb : ¬ (281474976710656 < (m : Int) * f.bytes) := by
    rw [h3]
    have h6 : m * (by' + 1) ≤ (nn + m) * (by' + 1) := Nat.mul_le_mul_right _ (by omega)
    have : ((m * (by' + 1) : Nat) : Int) ≤ 281474976710656 := by omega
    push_cast at this
    push_cast
    omega
  have hfit := growslice_fits (old := c) (need := nn + m) (bytes := by' + 1) (by omega) h1
  have hnc2 : ¬ (281474976710656 < Builtin.nextslicecap (nn + m) c * f.bytes) := by rw [h3]; omega
  have hn0 : ¬ (m = 0) := by omega
  have hnr : ¬ (nn + m ≤ c) := by omega
  have hnz : ¬ ((m : Int) < 0) := by omega
  have hn63 : ¬ (9223372036854775807 < ((nn : Int) + (m : Int))) := by omega
  have hf := run_firstCells_some (P := P) w.drew f.size nn ⟨g, 0, none⟩ nn c olds (by rw [h2]; omega) (by simpa using holds)
  have hzs : z.cells.size = 1 := by rw [hzc]; rfl
  have hzl : (Builtin.zeroCells z.cells m).toList = List.replicate m z := by
    rw [hzc]
    apply List.ext_getElem
    · simp [Builtin.zeroCells]
    · intro i h1 h2
      simp [Builtin.zeroCells, Nat.mod_one]
  refine Ops.val hd hg (w' := w.drew.alloc (.cells (olds.toArray ++ Builtin.zeroCells z.cells m ++ Builtin.zeroCells z.cells (grownCap w (nn + m) c e - (nn + m))) e)) (v := .slice (some ⟨w.heap.size, 0, none⟩) (nn + m) (grownCap w (nn + m) c e)) (fun a hr => ?_) (hk _ _ _ (Nat.le_refl _) ?_ ?_)
  · simp [execOp, ho, resolve, invoke, builtin, hr.ev hx, hr.ev hy, Builtin.append_, run_und (td_slice (tyD_ok ht)), run_und (td_int (tyD_ok hu)), sizeOf, typeInfo, zeroValue, hi, h4, asInt, asIntOf, hw, hnb, hnc2, hn0, hnr, hnz, hn63, Question.forced, newRow, grownCap, h2]
    rw [h2] at hf
    rw [hf]
    simp
  · refine ⟨by simp [hlo], .inr ⟨w.heap.size, _, _, rfl, Nat.zero_le _, heap_alloc_new w.drew _, hge, hle, ?_, ?_⟩⟩
    · simp only [Array.size_append, size_zeroCells, hzs, List.size_toArray]
      omega
    · rw [Array.toList_append, Array.toList_append, hzl, List.take_append_of_le_length (by simp [hlo])]
      rw [List.take_of_length_le (by simp [hlo])]
  · exact ⟨rfl, rfl, rfl, by simp, fun i hi _ => Below.heap_alloc w.drew _ i hi⟩
end
end Go.Proofs.YtcmjlmnfdncajaaGreatDoor.VW
/- In a list of the call's own: append where there is room, clear, prefixes. -/
namespace Go.Proofs.YtcmjlmnfdncajaaGreatDoor.VW
open Go Go.RowKit
theorem OI.pre {α : Type} {e : Nat} {enc : α → Value} {w0 w : World} {g m c h : Nat} {os : List α} (hO : OI e enc w0 w (.slice (some ⟨g, 0, none⟩) m c) os) (hm : m = os.length) (hh : h ≤ m) : OI e enc w0 w (.slice (some ⟨g, 0, none⟩) h c) (os.take h) := by
  have hl : (os.take h).length = h := by rw [List.length_take]; omega
  refine ⟨hO.bel, ?_, hO.ge⟩
  rcases hO.own.2 with ⟨h2, _⟩ | ⟨g', cap, cur, h2, hb, hg, hnc, hx2, hcs, ht⟩
  · cases h2
  · cases h2
    refine ⟨by rw [List.length_map, Nat.mul_one], .inr ⟨g, c, cur, by rw [hl], hb, hg, by omega, hx2, hcs, ?_⟩⟩
    rw [hl, List.map_take, ← ht, List.take_take]
    congr 1
    omega
theorem oi_setRow {α : Type} {e : Nat} {enc : α → Value} {w0 w : World} {g m c p : Nat} {os ys : List α} (hO : OI e enc w0 w (.slice (some ⟨g, 0, none⟩) m c) os) (hm : m = os.length) (hp : p + ys.length ≤ os.length) :
    ∃ cur : Array Value, Blk w g cur e ∧ cur.size = c ∧ m ≤ c ∧ OI e enc w0 (w.setRow g (cur.toList.take p ++ ys.map enc ++ cur.toList.drop (p + (ys.map enc).length)).toArray) (.slice (some ⟨g, 0, none⟩) m c) (os.take p ++ ys ++ os.drop (p + ys.length)) := by
  rcases hO.own.2 with ⟨h2, _⟩ | ⟨g', cap, cur, h2, hb, hg, hnc, hx2, hcs, ht⟩
  · cases h2
  · cases h2
    have hcz : cur.size = c := by simpa using hcs
    have hle : (os.take p ++ ys ++ os.drop (p + ys.length)).length = os.length := by simp; omega
    refine ⟨cur, hg, hcz, hnc, ⟨Below.put hO.bel kp_setRow (fun i hi => by subst hi; exact hO.ge _ rfl), ?_, hO.ge⟩⟩
    refine ⟨by simp, .inr ⟨g, c, _, by rw [hle], Nat.zero_le _, setRow_heap w g cur _ e _ hg, by rw [hle]; exact hnc, hx2, ?_, ?_⟩⟩
    · rw [List.size_toArray]; simp [hcz]; omega
    · rw [hle]
      have hto : cur.toList.take (os.length * 1) = os.map enc := by simpa using ht
      rw [Nat.mul_one] at hto ⊢
      have hol : os.length ≤ cur.toList.length := by simp [hcz]; omega
      simp only [List.length_map]
      apply List.ext_getElem?
      intro j
      have hj : ∀ j, j < os.length → cur.toList[j]? = (os.map enc)[j]? := fun j hj => by rw [← hto, List.getElem?_take, if_pos hj]
      rw [List.getElem?_take]
      by_cases h1 : j < os.length
      · rw [if_pos h1]
        by_cases h2 : j < p
        · rw [List.append_assoc, List.getElem?_append_left (by simp; omega), List.getElem?_take, if_pos h2, hj j h1, List.map_append, List.map_append, List.append_assoc, List.getElem?_append_left (by simp; omega), List.map_take, List.getElem?_take, if_pos h2]
        · by_cases h3 : j < p + ys.length
          · rw [List.append_assoc, List.getElem?_append_right (by simp; omega), List.getElem?_append_left (by simp; omega), List.map_append, List.map_append, List.append_assoc, List.getElem?_append_right (by simp; omega), List.getElem?_append_left (by simp; omega)]
            simp
            congr 2
            omega
          · rw [List.getElem?_append_right (by simp; omega), List.map_append, List.getElem?_append_right (by simp; omega), List.getElem?_drop, List.map_drop, List.getElem?_drop]
            simp only [List.length_append, List.length_take, List.length_map]
            rw [hj _ (by simp; omega)]
            congr 1
            simp
            omega
      · rw [if_neg h1]
        symm
        rw [List.getElem?_eq_none_iff]
        simp
        omega
section
variable {P : Program} [hT : Tab P] {n : Nat} {ds : List Deferred} {Φ : Post} {k : List It} {ρ : E} {w : World} {all : Array Oper} {l : List Oper} {md : Option (List Oper)} {s : Nat} {F : World → Prop} {π : List (Nat × Nat)} {L : List Bool}
theorem EV.slT {o : Oper} {t e sz m c p q r : Nat} {x y z u : Operand} {A : Option Addr} (ho : o.op = .slice t x (some y) (some z) (some u)) (ht : tyD P t = some (.slice e)) (hs : tyS P e = some sz) (hx : ev ρ x = some (.slice A m c)) (hy : ev ρ y = some (.int .i64 (p : Int))) (hz : ev ρ z = some (.int .i64 (q : Int))) (hu : ev ρ u = some (.int .i64 (r : Int))) (hpq : p ≤ q) (hq : q ≤ r) (hr : r ≤ c) : EV P n ρ w o (.slice (if r = p then A else A.map fun a => a.add (p * sz)) (q - p) (r - p)) := by
  intro a ha
  simp [execOp, ho, ha.ev hx, ha.ev hy, ha.ev hz, ha.ev hu, Instr.sliceAt, Instr.slice, Instr.sliceBounds, Instr.sliceBound, asIntOf, run_und (td_slice (tyD_ok ht)), run_sizeOf hs, hpq, hq, hr]
theorem EV.slQ1 {o : Oper} {t e g m c p q : Nat} {x y z : Operand} (ho : o.op = .slice t x (some y) (some z) none) (ht : tyD P t = some (.slice e)) (hs : tyS P e = some 1) (hx : ev ρ x = some (.slice (some ⟨g, 0, none⟩) m c)) (hy : ev ρ y = some (.int .i64 (p : Int))) (hz : ev ρ z = some (.int .i64 (q : Int))) (hpq : p ≤ q) (hq : q ≤ c) (hp : p < c) : EV P n ρ w o (.slice (some ⟨g, p, none⟩) (q - p) (c - p)) := by
  have := EV.slQ (w := w) (n := n) ho ht hs hx hy hz hpq hq
  rw [if_neg (by omega), Option.map_some, add_lit, Nat.mul_one, Nat.zero_add] at this
  exact this
/-- append(x[:i], y...), where there is room in x. -/
theorem Ops.appI {α : Type} {enc : α → Value} {z0 : α} {w0 : World} {o : Oper} {d t e by' g m c i : Nat} {x y : Operand} {yv z : Value} {os ys : List α} (ho : o.op = .call { callee := .builtin .append, args := #[x, y], argTypes := #[t, t] }) (hd : o.dst = some d) (hg : o.guard = none)
    (ht : tyD P t = some (.slice e)) (hs : tyS P e = some 1) (hb : tyB P e = some (by' + 1)) (hz : tyZ P e = some z) (hx : ev ρ x = some (.slice (some ⟨g, 0, none⟩) i c)) (hy : ev ρ y = some yv)
    (hO : OI e enc w0 w (.slice (some ⟨g, 0, none⟩) m c) os) (hm : m = os.length) (hys : Sl enc z0 w yv ys) (hi : i + ys.length ≤ os.length) (h1 : ∀ u, (enc u).oneCell' = true)
    (hk : ∀ w', OI e enc w0 w' (.slice (some ⟨g, 0, none⟩) m c) (os.take i ++ ys ++ os.drop (i + ys.length)) → Kp (fun i => i = g) w w' → Ops none P n ds all k Φ l ((d, .slice (some ⟨g, 0, none⟩) (i + ys.length) c) :: ρ) w') : Ops none P n ds all k Φ (o :: l) ρ w := by
  obtain ⟨cur, hB, hcz, hmc, hO'⟩ := oi_setRow hO hm hi
  obtain ⟨f, hif, h2, h3, h4⟩ := tyE_ok hs hb hz
  obtain ⟨hm2, A, cy, rfl, hc⟩ := hys
  by_cases hp : 0 < ys.length
  · obtain ⟨a, rfl, hc2⟩ := hc hp
    have hr2 := run_append_room (P := P) w t o.type e f (td_slice (tyD_ok ht)) hif g i c cur hB a ys.length cy (ys.map enc) (by rw [h2]; simp) (fun j u hu => by
      rw [List.getElem?_map] at hu
      by_cases hj : j < ys.length
      · rw [hc2 j hj]
        simp [hj] at hu
        simp [← hu, List.getD_eq_getElem?_getD, hj]
      · rw [List.getElem?_eq_none (by omega)] at hu
        simp at hu) (by simp; exact fun u _ => h1 u) (by omega) (by rw [h2]; simp; omega)
    rw [h2, Nat.mul_one] at hr2
    refine Ops.val hd hg (fun a hr' => ?_) (hk _ hO' kp_setRow)
    simp [execOp, ho, resolve, invoke, builtin, hr'.ev hx, hr'.ev hy, hr2]
  · have hy0 : ys = [] := List.eq_nil_of_length_eq_zero (by omega)
    subst hy0
    have hfc : (Builtin.firstCells f.size 0 (.slice A 0 cy)).run P w = .ok #[] w := by
      cases A <;> simp [Builtin.firstCells, loadCells, loadCellsFrom]
    refine Ops.val hd hg (fun a hr => ?_) (hk w (by simpa using hO) (Kp.refl _ _))
    simp only [List.length_nil] at hy
    have hic : i ≤ c := by simp at hi; omega
    simp [execOp, ho, resolve, invoke, builtin, hr.ev hx, hr.ev hy, Builtin.append_, run_und (td_slice (tyD_ok ht)), sizeOf, typeInfo, hif, Builtin.lenOf, hic, hfc, storeCells]
omit hT in
theorem Ops.valN {o : Oper} {v : Value} {w' : World} (hg : o.guard = none) (hdst : o.dst = none) (hr : ∀ a, Rep n a ρ → (execOp a.eval o).run P w = .ok (.value v) w')
    (h : Ops none P n ds all k Φ l ρ w') : Ops none P n ds all k Φ (o :: l) ρ w := by
  intro hi a ha hd
  simp only [List.all_cons, Bool.and_eq_true] at hi
  refine wpList_plain hg fun K hK => ?_
  unfold Oper.wp
  rw [hr a ha]
  exact hK _ _ (by rw [hdst]; exact h hi.2 _ ha hd)
/-- clear(x[p:p+q]). -/
theorem Ops.clrO {α : Type} {enc : α → Value} {z0 : α} {w0 : World} {o : Oper} {t e by' g m c p q c2 : Nat} {x : Operand} {os : List α} (ho : o.op = .call { callee := .builtin .clear, args := #[x], argTypes := #[t] }) (hd : o.dst = none) (hg : o.guard = none)
    (ht : tyD P t = some (.slice e)) (hs : tyS P e = some 1) (hz : tyZ P e = some (enc z0)) (hzc : (enc z0).cells = #[enc z0]) (hx : ev ρ x = some (.slice (some ⟨g, p, none⟩) q c2))
    (hO : OI e enc w0 w (.slice (some ⟨g, 0, none⟩) m c) os) (hm : m = os.length) (hp : p + q ≤ os.length) (hq : 0 < q) (h1 : ∀ u, (enc u).oneCell' = true)
    (hk : ∀ w', OI e enc w0 w' (.slice (some ⟨g, 0, none⟩) m c) (os.take p ++ List.replicate q z0 ++ os.drop (p + q)) → Kp (fun i => i = g) w w' → Ops none P n ds all k Φ l ρ w') : Ops none P n ds all k Φ (o :: l) ρ w := by
  obtain ⟨cur, hB, hcz, hmc, hO'⟩ := oi_setRow (ys := List.replicate q z0) hO hm (by simpa using hp)
  have hzl : (Builtin.zeroCells (enc z0).cells q).toList = (List.replicate q z0).map enc := by
    rw [hzc]
    apply List.ext_getElem
    · simp [Builtin.zeroCells]
    · intro i h1 h2
      simp [Builtin.zeroCells, Nat.mod_one]
  have hst := run_storeCells_at P g p e ((List.replicate q z0).map enc) 0 cur w hB (by simp; omega) (by simp; intro _; exact h1 z0)
  rw [Nat.add_zero] at hst
  have hlr : (List.replicate q z0).length = q := by simp
  rw [hlr] at hO'
  obtain ⟨q', rfl⟩ : ∃ q', q = q' + 1 := ⟨q - 1, by omega⟩
  refine Ops.valN (v := .tuple #[]) hg hd (fun a hr => ?_) (hk _ hO' kp_setRow)
  simp [execOp, ho, resolve, invoke, builtin, hr.ev hx, Builtin.clear_, run_und (td_slice (tyD_ok ht)), run_zeroV hz, hzl]
  simp only [List.map_replicate, List.length_replicate, List.append_assoc] at hst
  rw [hst]
  rfl
end
section
variable {P : Program} [hT : Tab P] {n : Nat} {ds : List Deferred} {Φ : Post} {k : List It} {ρ : E} {w : World} {all : Array Oper} {F : World → Prop} {π : List Nat} {L : List Bool}
theorem OrdF.noF {i d : Nat} {o : Oper} {c : Bool} (hp : freeB all L i = true) (ho : all[i]? = some o) (hd : o.dst = some d) (hg : gdB all ρ o.guard = some c) (hgc : c = false)
    (h : OrdF P n ds all k Φ F π (L.set i true) ((d, undef) :: ρ) w) : OrdF P n ds all k Φ F (i :: π) L ρ w := by
  subst hgc
  intro hs hdo hcl hΦ hF a hr hds
  simp only [freeB, Bool.and_eq_true] at hp
  have hdn : dOk n o.dst = true := by
    rw [List.all_eq_true] at hdo
    exact hdo o (by rw [← Array.getElem?_toList] at ho; exact List.mem_of_getElem? ho)
  refine wpAnyI_take ho hs hp.1 hp.2 (fun c a w hq => lift_pan hΦ hq) (fun _ _ => Iff.rfl) (G := F) (fun _ _ _ _ h => h) hcl (v := undef) (.inr ⟨gdB_wanted hg hr, rfl⟩) hF ?_
  have := h hs hdo (by rw [← List.setIfInBounds_toArray]; exact hcl.set (by simpa using hp.2)) hΦ hF (a.put o.dst undef) (by have := hr.put hdn undef; rw [hd] at this ⊢; exact this) (by rw [hd]; exact hds)
  rw [List.setIfInBounds_toArray]
  exact this
end
end Go.Proofs.YtcmjlmnfdncajaaGreatDoor.VW
