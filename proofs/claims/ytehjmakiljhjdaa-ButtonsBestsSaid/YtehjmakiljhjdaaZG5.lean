/- A part of the walk: what this seat's statements share. -/
import Derived.Test.YtehjmakiljhjdaaZG4
import Derived.Test.YtehjmakiljhjdaaZG3
import Derived.Shelf.Sort.Plain
import Derived.Test.YtehjmakiljhjdaaZG1
set_option linter.unusedVariables false
set_option linter.unusedSimpArgs false
set_option linter.unusedSectionVars false
/- A range over a function of two values, whose rounds may return. -/
namespace Go.Proofs.Ytehjmakiljhjdaa.VW
open Go Go.RowKit
theorem kp_putObj {w : World} {r : Nat} (o : Obj) : Kp (fun k => k = r) w (w.putObj r o) := (Kp.of_grown (grownBy_putObj' w r o)).mono fun k _ e => by cases e; rfl
theorem at_kp {S : Nat → Prop} {w w' : World} {b : Nat} {o : Obj} (h : w.heap[b]? = some o) (k : Kp S w w') (hs : ¬ S b) : w'.heap[b]? = some o := (k.blk b (Array.getElem?_eq_some_iff.1 h).1 hs).trans h
section
variable {P : Program} {n : Nat} {ds : List Deferred} {ρ : E} {w : World} {r : Option Nat}
theorem Wi.ret {Q : Post} (h : Q .ret ρ w) : Wi r P n ds .ret Q ρ w := fun a hr hd => wpIn_ret ⟨ρ, hr, hd, h⟩
theorem round_in2 {fn : FuncId} {tmps : Array Value} {p1 p2 : Nat} {assign body : Code} {D L : Nat} {v1 v2 : Value} {R : Ending → World → Prop} (hL : w.heap[L]? = some (.loop (loopRec fn tmps #[p1, p2] assign body D))) (hr : Rep n { tmps := tmps, defers := [] } ρ) (hp1 : Nat.blt p1 n = true) (hp2 : Nat.blt p2 n = true)
    (h : Wi (some L) P n [] assign (fun e ρ1 w1 => e = .normal ∧ ∃ r, w1.heap[L]? = some (.loop r) ∧ r.state = .ready ∧ Wi (some L) P n [] body (fun e ρ2 w2 => ∃ r2, w2.heap[L]? = some (.loop r2) ∧ ((e = .normal ∧ R (.returned (.bool true)) (w2.putObj L (.loop { r2 with state := .ready, pending := none }))) ∨ (e = .ret ∧ R (.returned (.bool false)) (w2.putObj L (.loop { r2 with state := .done, pending := some .ret }))))) ρ1 (w1.putObj L (.loop { r with state := .busy }))) ((p2, v2) :: (p1, v1) :: ρ) w) :
    YieldAt (Fw none) 0 P L #[v1, v2] w R := by
  refine ⟨fn, _, assign, body, run_yield hL rfl, roundIn_of_wpIn (Fw_fn none fn) ?_⟩
  have hrep : Rep n { tmps := ((#[p1, p2] : Array Tmp).zip #[v1, v2]).foldl (fun tmps (t, a) => tmps.setIfInBounds t a) tmps, defers := [] } ((p2, v2) :: (p1, v1) :: ρ) := by
    have h1 := hr.put (d := some p1) hp1 v1
    have h2 := h1.put (d := some p2) hp2 v2
    simpa [Act.put, VW.put] using h2
  refine wpIn_mono (h _ hrep rfl) ?_
  rintro e a w1 ⟨ρ1, hr1, hd1, rfl, r, hl1, hs1, hb⟩
  refine ⟨_, run_beginRound hl1 hs1, wpIn_mono (hb _ hr1 hd1) ?_⟩
  rintro e a2 w2 ⟨ρ2, hr2, hd2, r2, hl2, ⟨rfl, hR⟩ | ⟨rfl, hR⟩⟩
  · exact ⟨_, _, run_endRound none hl2, hR⟩
  · exact ⟨_, _, run_endRound (some .ret) hl2, hR⟩
/-- A call of yield with two values. -/
theorem OpsI.yield2 {all : Array Oper} {Q : Post} {rest : List Oper} {o : Oper} {d : Nat} {x y1 y2 : Operand} {l : Nat} {v1 v2 : Value} {ts : Array TypeId}
    (ho : o.op = .call { callee := .value x, args := #[y1, y2], argTypes := ts }) (hdst : o.dst = some d) (hlt : Nat.blt d n = true) (hg : o.guard = none)
    (hx : ev ρ x = some (.func (.yield l) #[] #[])) (hy1 : ev ρ y1 = some v1) (hy2 : ev ρ y2 = some v2)
    (hyld : YieldAt (Fw r) 0 P l #[v1, v2] w (fun e w' => ∃ b, e = .returned (.bool b) ∧ OpsI r P n ds all Q rest ((d, .bool b) :: ρ) w')) : OpsI r P n ds all Q (o :: rest) ρ w := by
  intro a hr hd
  unfold wpListIn
  rw [if_pos (by simp [Region.wanted, hg])]
  refine ⟨fun f _ => Fw_fn r f, ?_⟩
  rw [Oper.semAt_eq _ _ _ (by rw [ho]; simp)]
  obtain ⟨fn, tmps, assign, body, hrun, hround⟩ := hyld
  have he : (execOp a.eval o).run P w = .ok (.round l fn tmps assign body) w := by
    have q : #[y1, y2].map a.eval = #[v1, v2] := by simp only [List.map_toArray, List.map_cons, List.map_nil, hr.ev hy1, hr.ev hy2]
    rw [← hrun]
    simp only [execOp, ho, resolve, q]
    simp [hr.ev hx, Deferred.ofValue, invoke]
  rw [he, Oper.uponIn_round]
  refine ⟨fun h => (by rw [Fw_dep] at h; cases h), RoundIn.mono hround fun e w' he => ?_⟩
  obtain ⟨b, rfl, h⟩ := he
  have hput : Rep n (a.put o.dst (.bool b)) ((d, .bool b) :: ρ) := by
    have := hr.put (d := o.dst) (by rw [hdst]; exact hlt) (.bool b)
    rw [hdst] at this ⊢
    exact this
  exact h _ hput (by rw [hdst]; exact hd)
theorem JW.range2 {id : Nat} {g : Operand} {p1 p2 : Nat} {assign body c2 : Code} {gf : Nat} {lb : List Value} {Φ : Post} (hg : ev ρ g = some (.func (.func gf) #[] lb.toArray)) (hgf : callOk P gf = true) (hi2 : inB n c2 = true)
    (h : ∀ fn tmps, Rep n { tmps := tmps, defers := [] } ρ → ∀ D W1, D = w.heap.size → W1 = (w.alloc (.deferred (some []))).alloc (.loop (loopRec fn tmps #[p1, p2] assign body D)) →
      CallsIn (Fw none) 0 P gf (.func (.yield (D + 1)) #[] #[] :: lb).toArray W1 (Ret fun _ W2 => ∃ r, W2.heap[D + 1]? = some (.loop r) ∧ W2.heap[D]? = some (.deferred (some [])) ∧
        ((r.state = .ready ∧ r.pending = none ∧ ∀ W3, W3 = W2.putObj (D + 1) (.loop { r with state := .exhausted }) → W P n ({ target := .collected D, args := #[] } :: ds) [.code c2] (fun e ρ w => e = .ret ∧ w.heap[D]? = some (.deferred (some [])) ∧ Φ .ret ρ (w.putObj D (.deferred none))) ρ W3) ∨
         (r.state = .done ∧ r.pending = some .ret ∧ ∀ W3, W3 = W2.putObj (D + 1) (.loop { r with state := .exhausted }) → W3.heap[D]? = some (.deferred (some [])) ∧ Φ .ret ρ (W3.putObj D (.deferred none)))))) :
    JW P n ds Φ c2 (.block id (.rangeFunc g #[p1, p2] assign body)) ρ w := by
  intro hi a hr hd
  refine (wpIn_wide (n := 0)).1 (wpIn_block (wpIn_rangeFunc fun fn hfn => ?_))
  have hrep : Rep n { tmps := a.tmps, defers := [] } ρ := ⟨hr.size, hr.slot⟩
  have hcall := h fn a.tmps hrep _ _ rfl rfl
  have hev := hr.ev hg
  refine ⟨_, _, _, { target := .fn (.func gf) lb.toArray, args := #[.func (.yield (w.heap.size + 1)) #[] #[]] }, (w.alloc (.deferred (some []))).alloc (.loop (loopRec fn a.tmps #[p1, p2] assign body w.heap.size)), gf, _, _, run_enterLoop_outer _ _ _ _ _, ?_, fun f' _ => trivial, ?_, fun h => (by cases h), CallsIn.mono hcall ?_⟩
  · simp only [resolve, hev]
    simp [go_sem]
  · have hcf := run_callFunc (P := P) (w := (w.alloc (.deferred (some []))).alloc (.loop (loopRec fn a.tmps #[p1, p2] assign body w.heap.size))) (args := (.func (.yield (w.heap.size + 1)) #[] #[] :: lb).toArray) hgf
    have e : (Value.func (.yield (w.heap.size + 1)) #[] #[] :: lb).toArray = #[.func (.yield (w.heap.size + 1)) #[] #[]] ++ lb.toArray := by simp
    rw [e] at hcf ⊢
    simpa [invoke] using hcf
  · rintro e W2 ⟨v, rfl, r, hl, hD, ⟨hs, hp, hw⟩ | ⟨hs, hp, hw⟩⟩
    · obtain ⟨st, pe, q1, q2, q3, q4, q5, q6⟩ := r
      simp only at hs hp
      subst hp
      refine ⟨none, _, run_endLoop (P := P) hl (by simp [hs]), ?_⟩
      show c2.wp P _ _ _
      have hw' := hw _ rfl hi2 { a with defers := { target := .collected w.heap.size, args := #[] } :: a.defers } ⟨hr.size, hr.slot⟩ (by rw [hd])
      refine wp_mono hw' ?_
      rintro e a3 w3 ⟨ρ3, hr3, hl3⟩
      cases e with
      | ret =>
        obtain ⟨w4, hm, _, hD3, hΦ⟩ := hl3
        exact ⟨ρ3, hr3, _, hm.trans (.cons hD3 (.nil _ _)), Qof.ret hΦ⟩
      | _ => exact absurd hl3.2.1 (by simp)
    · obtain ⟨st, pe, q1, q2, q3, q4, q5, q6⟩ := r
      simp only at hs hp
      subst hp
      refine ⟨some .ret, _, run_endLoop (P := P) hl (by simp [hs]), ?_⟩
      obtain ⟨hD3, hΦ⟩ := hw _ rfl
      refine wpIn_ret ?_
      exact ⟨ρ, ⟨hr.size, hr.slot⟩, _, by rw [hd]; exact .cons hD3 (.nil _ _), Qof.ret hΦ⟩
end
end Go.Proofs.Ytehjmakiljhjdaa.VW
/- Drawn regions: effects in any order, with reads of what stands. -/
namespace Go.Proofs.Ytehjmakiljhjdaa.VW
open Go Go.RowKit
section
variable {P : Program} [hT : Tab P] {n : Nat} {ds : List Deferred} {Φ : Post} {k : List It} {ρ : E} {w : World} {all : Array Oper} {l : List Oper} {md : Option (List Oper)} {F : World → Prop} {π : List Nat} {L : List Bool}
def OrdF (P : Program) (n : Nat) (ds : List Deferred) (all : Array Oper) (k : List It) (Φ : Post) (F : World → Prop) (π : List Nat) (L : List Bool) (ρ : E) (w : World) : Prop :=
  Region.noSelect all = true → (all.toList.all fun o => dOk n o.dst) = true → Cl .any all L.toArray → (∀ c ρ w, ¬ Φ (.panic c) ρ w) → F w → ∀ a, Rep n a ρ → a.defers = ds → wpAnyI P .any all (lift n ds (Qof P n ds Φ k)) (fun _ w => F w) π.length L.toArray a w
def freeB (all : Array Oper) (L : List Bool) (i : Nat) : Bool := Region.free .any all L.toArray i && (Region.ready .any all L.toArray).contains i
omit hT in
theorem OrdF.take {i d : Nat} {o : Oper} {v : Value} {c : Bool} (hp : freeB all L i = true) (ho : all[i]? = some o) (hd : o.dst = some d) (hg : gdB all ρ o.guard = some c) (hgc : c = true) (hev : ∀ w, F w → EV P n ρ w o v)
    (h : OrdF P n ds all k Φ F π (L.set i true) ((d, v) :: ρ) w) : OrdF P n ds all k Φ F (i :: π) L ρ w := by
  subst hgc
  intro hs hdo hcl hΦ hF a hr hds
  simp only [freeB, Bool.and_eq_true] at hp
  have hdn : dOk n o.dst = true := by
    rw [List.all_eq_true] at hdo
    exact hdo o (by rw [← Array.getElem?_toList] at ho; exact List.mem_of_getElem? ho)
  refine wpAnyI_take ho hs hp.1 hp.2 (fun c a w hq => by obtain ⟨ρ', _, _, hq⟩ := hq; exact absurd hq (pan_no hΦ k c ρ' w)) (fun _ _ => Iff.rfl) (G := F) (fun _ _ _ _ h => h) hcl (v := v) (.inl ⟨gdB_wanted hg hr, fun w' hw' => hev w' hw' a hr⟩) hF ?_
  have := h hs hdo (by rw [← List.setIfInBounds_toArray]; exact hcl.set (by simpa using hp.2)) hΦ hF (a.put o.dst v) (by have := hr.put hdn v; rw [hd] at this ⊢; exact this) (by rw [hd]; exact hds)
  rw [List.setIfInBounds_toArray]
  exact this
omit hT in
theorem OrdF.one_ {i : Nat} {o : Oper} (ho : all[i]? = some o) (hr : (Region.ready .any all L.toArray).contains i = true)
    (h : Ops none P n ds all (.lp (fun ρ1 w1 => F w1 ∧ OrdF P n ds all k Φ F π (L.set i true) ρ1 w1) :: k) Φ [o] ρ w) (hs : Region.noSelect all = true) (hdo : (all.toList.all fun o => dOk n o.dst) = true) (hcl : Cl .any all L.toArray) (hΦ : ∀ c ρ w, ¬ Φ (.panic c) ρ w) {a : Act} (har : Rep n a ρ) (hds : a.defers = ds) :
    wpOp P all (lift n ds (Qof P n ds Φ k)) i (fun a' w' => F w' ∧ wpAnyI P .any all (lift n ds (Qof P n ds Φ k)) (fun _ w => F w) π.length (L.toArray.setIfInBounds i true) a' w') a w := by
  have hdn : dOk n o.dst = true := by
    rw [List.all_eq_true] at hdo
    exact hdo o (by rw [← Array.getElem?_toList] at ho; exact List.mem_of_getElem? ho)
  have h' : wpList P all (lift n ds (Qof P n ds Φ (.lp (fun ρ1 w1 => F w1 ∧ OrdF P n ds all k Φ F π (L.set i true) ρ1 w1) :: k))) [o] a w := h (by simp [hdn]) a har hds
  have hcl' : Cl .any all (L.set i true).toArray := by rw [← List.setIfInBounds_toArray]; exact hcl.set (by simpa using hr)
  have hK : ∀ a' w', wpList P all (lift n ds (Qof P n ds Φ (.lp (fun ρ1 w1 => F w1 ∧ OrdF P n ds all k Φ F π (L.set i true) ρ1 w1) :: k))) [] a' w' → F w' ∧ wpAnyI P .any all (lift n ds (Qof P n ds Φ k)) (fun _ w => F w) π.length (L.toArray.setIfInBounds i true) a' w' := by
    rintro a' w' ⟨ρ1, hr1, hd1, hF1, hO⟩
    rw [List.setIfInBounds_toArray]
    exact ⟨hF1, hO hs hdo hcl' hΦ hF1 a' hr1 hd1⟩
  have hq : ∀ c a w, lift n ds (Qof P n ds Φ (.lp (fun ρ1 w1 => F w1 ∧ OrdF P n ds all k Φ F π (L.set i true) ρ1 w1) :: k)) (.panic c) a w → lift n ds (Qof P n ds Φ k) (.panic c) a w := fun _ _ _ h => h
  unfold wpList at h'
  unfold wpOp
  simp only [ho]
  split
  · rename_i hw
    rw [if_pos hw] at h'
    rcases h' with h' | ⟨h1, a', w', h2⟩
    · left
      unfold Oper.wp at h' ⊢
      generalize (execOp a.eval o).run P w = r at *
      cases r with
      | ok nx w' =>
        cases nx <;> simp only [Oper.upon] at h' ⊢
        case value v => exact hK _ _ h'
        case skip => exact hK _ _ h'
        case defer d => exact hK _ _ h'
        case enter f args =>
          refine h'.mono fun e w'' he => ?_
          cases e with
          | returned v => exact hK _ _ he
          | panicked ch => exact hq _ _ _ he
          | outgrown => obtain ⟨a, w, ho⟩ := he; exact ⟨a, w, ho⟩
        case row r args => exact h'.mono fun v w'' hv => hK _ _ hv
      | halt x w' =>
        cases x <;> simp only [Oper.upon] at h' ⊢
        exact hq _ _ _ h'
    · exact .inr ⟨h1, a', w', h2⟩
  · rename_i hw
    rw [if_neg hw] at h'
    exact hK _ _ h'
omit hT in
/-- Two effects, in either order. -/
theorem OrdF.both {q : Nat} {oi oj : Oper} (i j : Nat) (hr : (Region.ready .any all L.toArray == [i, j]) = true) (hoi : all[i]? = some oi) (hoj : all[j]? = some oj)
    (h1 : Ops none P n ds all (.lp (fun ρ1 w1 => F w1 ∧ OrdF P n ds all k Φ F π (L.set i true) ρ1 w1) :: k) Φ [oi] ρ w)
    (h2 : Ops none P n ds all (.lp (fun ρ1 w1 => F w1 ∧ OrdF P n ds all k Φ F π (L.set j true) ρ1 w1) :: k) Φ [oj] ρ w) : OrdF P n ds all k Φ F (q :: π) L ρ w := by
  have hr := eq_of_beq hr
  intro hs hdo hcl hΦ hF a har hds
  refine wpAnyI_all hr (by simp) fun q hq => ?_
  simp only [List.mem_cons, List.not_mem_nil, or_false] at hq
  rcases hq with rfl | rfl
  · exact OrdF.one_ hoi (by rw [hr]; simp) h1 hs hdo hcl hΦ har hds
  · exact OrdF.one_ hoj (by rw [hr]; simp) h2 hs hdo hcl hΦ har hds
omit hT in
theorem OrdF.one {q : Nat} {oi : Oper} (i : Nat) (hr : (Region.ready .any all L.toArray == [i]) = true) (hoi : all[i]? = some oi)
    (h1 : Ops none P n ds all (.lp (fun ρ1 w1 => F w1 ∧ OrdF P n ds all k Φ F π (L.set i true) ρ1 w1) :: k) Φ [oi] ρ w) : OrdF P n ds all k Φ F (q :: π) L ρ w := by
  have hr := eq_of_beq hr
  intro hs hdo hcl hΦ hF a har hds
  refine wpAnyI_all hr (by simp) fun q hq => ?_
  simp only [List.mem_singleton] at hq
  subst hq
  exact OrdF.one_ hoi (by rw [hr]; simp) h1 hs hdo hcl hΦ har hds
omit hT in
theorem OrdF.done (hr : (Region.ready .any all L.toArray).isEmpty = true) (h : W P n ds k Φ ρ w) : OrdF P n ds all k Φ F π L ρ w := fun _ _ _ _ _ a har hds => wpAnyI_done (by simpa using hr) ⟨ρ, har, LiftD.mk hds h⟩ _
omit hT in
theorem W.ordF {id : Nat} {ops : Array Oper} (F : World → Prop) (π : List Nat) (hm : P.follows .mixedOrders = true) (hs : Region.noSelect ops = true) (hlen : π.length = ops.size) (hΦ : ∀ c ρ w, ¬ Φ (.panic c) ρ w)
    (h : ∀ w', Kp (fun _ => False) w w' → w'.heap = w.heap → F w' ∧ OrdF P n ds ops k Φ F π (List.replicate π.length false) ρ w') : W P n ds (.code (.region id ops true) :: k) Φ ρ w := by
  intro hi a hr hd
  refine wp_region_I (S := fun _ w => F w) hm ?_
  obtain ⟨hF, h⟩ := h _ (kp_drew w) rfl
  have := h hs (by simpa [inB] using hi) (by rw [List.toArray_replicate]; exact Cl.start _) hΦ hF a hr hd
  rw [← hlen]
  rw [List.toArray_replicate] at this
  exact this
omit hT in
theorem Wi.ordF {r : Option Nat} {id : Nat} {ops : Array Oper} {Q : Post} (F : World → Prop) (π : List Nat) (hm : P.follows .mixedOrders = true) (hi : (ops.toList.all fun o => dOk n o.dst) = true) (hdf : noDefer ops.toList = true) (hs : Region.noSelect ops = true) (hlen : π.length = ops.size)
    (h : ∀ w', Kp (fun _ => False) w w' → w'.heap = w.heap → F w' ∧ OrdF P n ds ops [.lp (Q .normal)] (fun _ _ _ => False) F π (List.replicate π.length false) ρ w') : Wi r P n ds (.region id ops true) Q ρ w := by
  intro a hr hd
  refine wpIn_region_any hm ?_
  obtain ⟨hF, h⟩ := h _ (kp_drew w) rfl
  have := h hs hi (by rw [List.toArray_replicate]; exact Cl.start _) (fun _ _ _ h => h) hF a hr hd
  rw [List.toArray_replicate, hlen] at this
  exact anyIn (fun c a w h => by obtain ⟨_, _, h⟩ := h; exact h.2) (fun h => by obtain ⟨_, _, _, _, h⟩ := h; exact h.2) (fun a w h => by obtain ⟨ρ', h1, h2, h3⟩ := h; exact ⟨ρ', h1, h2, h3⟩) hdf _ _ _ _ (wpAny_of_I _ _ _ _ this)
theorem f_p {i d : Nat} {o : Oper} {c : Bool} {v : Value} (ho : all[i]? = some o := by exact rfl) (hd : o.dst = some d := by exact rfl) (hg : gdB all ρ o.guard = some c := by exact rfl) (hgc : c = true := by exact rfl) (hv : pureV ρ o.op = some v := by exact rfl) (hp : freeB all L i = true := by kernel_rfl)
    (kk : OrdF P n ds all k Φ F π (L.set i true) ((d, v) :: ρ) w) : OrdF P n ds all k Φ F (i :: π) L ρ w := OrdF.take hp ho hd hg hgc (fun _ _ => EV.pu hv) kk
theorem f_a {i d : Nat} {o : Oper} {c : Bool} {x : Int} (ho : all[i]? = some o := by exact rfl) (hd : o.dst = some d := by exact rfl) (hg : gdB all ρ o.guard = some c := by exact rfl) (hgc : c = true := by exact rfl) (hv : arV ρ o.op = some x := by exact rfl) (hb : -9223372036854775808 ≤ x ∧ x ≤ 9223372036854775807 := by omega) (hp : freeB all L i = true := by kernel_rfl)
    (kk : OrdF P n ds all k Φ F π (L.set i true) ((d, (.int .i64 x)) :: ρ) w) : OrdF P n ds all k Φ F (i :: π) L ρ w := OrdF.take hp ho hd hg hgc (fun _ _ => EV.ar hv hb) kk
theorem f_l {i d : Nat} {o : Oper} {c : Bool} {t e m c2 : Nat} {x : Operand} {A : Option Addr} (ho : all[i]? = some o := by exact rfl) (hd : o.dst = some d := by exact rfl) (hg : gdB all ρ o.guard = some c := by exact rfl) (hgc : c = true := by exact rfl) (h1 : o.op = .call { callee := .builtin .len, args := #[x], argTypes := #[t] } := by exact rfl) (h2 : tyD P t = some (.slice e) := by exact rfl) (h3 : ev ρ x = some (.slice A m c2) := by exact rfl) (hp : freeB all L i = true := by kernel_rfl)
    (kk : OrdF P n ds all k Φ F π (L.set i true) ((d, (.int .i64 m)) :: ρ) w) : OrdF P n ds all k Φ F (i :: π) L ρ w := OrdF.take hp ho hd hg hgc (fun _ _ => EV.len h1 h2 h3) kk
theorem f_B {i d t : Nat} {o : Oper} {x y : Operand} {c : Bool} {u v z0 z1 : Value} (h0 : all[i]? = some o := by exact rfl) (hd : o.dst = some d := by exact rfl) (hg : gdB all ρ o.guard = some c := by exact rfl) (hgc : c = true := by exact rfl) (ho : o.op = .build t #[(0, x), (1, y)] := by exact rfl)
    (ht : tyD P t = some (.struct [(0, 1), (1, 1)]) := by exact rfl) (hz : tyZ P t = some (.agg #[z0, z1]) := by exact rfl) (hx : ev ρ x = some u := by exact rfl) (hy : ev ρ y = some v := by exact rfl) (h1 : u.oneCell' = true := by exact rfl) (h2 : v.oneCell' = true := by exact rfl) (hp : freeB all L i = true := by kernel_rfl)
    (kk : OrdF P n ds all k Φ F π (L.set i true) ((d, .agg #[u, v]) :: ρ) w) : OrdF P n ds all k Φ F (i :: π) L ρ w := OrdF.take hp h0 hd hg hgc (fun _ _ => EV.bld2 ho ht hz hx hy h1 h2) kk
theorem f_S {i d j t t' : Nat} {o : Oper} {x y : Operand} {c : Bool} (h0 : all[i]? = some o := by exact rfl) (hd : o.dst = some d := by exact rfl) (hg : gdB all ρ o.guard = some c := by exact rfl) (hgc : c = true := by exact rfl) (ho : o.op = .binOp .shl t x y t' := by exact rfl) (hx : ev ρ x = some (.int .i64 1) := by exact rfl) (hy : ev ρ y = some (.int .i64 (j : Int)) := by exact rfl) (hj : j ≤ 60 := by omega) (hp : freeB all L i = true := by kernel_rfl)
    (kk : OrdF P n ds all k Φ F π (L.set i true) ((d, .int .i64 ((2 ^ j : Nat) : Int)) :: ρ) w) : OrdF P n ds all k Φ F (i :: π) L ρ w := OrdF.take hp h0 hd hg hgc (fun _ _ => EV.bsh ho hx hy (m_shl hj)) kk
theorem f_D {i d t b q t' : Nat} {o : Oper} {x : Operand} {cs : Array Value} {v : Value} {w0 : World} {c : Bool} (h1 : all[i]? = some o := by exact rfl) (ho : o.op = .load t x := by exact rfl) (hd : o.dst = some d := by exact rfl) (hg : gdB all ρ o.guard = some c := by exact rfl) (hgc : c = true := by exact rfl)
    (ht : tyAgg P t = some false := by exact rfl) (hx : ev ρ x = some (.pointer (some ⟨b, q, none⟩)) := by exact rfl) (hb : Blk w0 b cs t' := by assumption) (hF : ∀ w, F w → Below w0.heap.size w0 w := by first | exact fun _ h => h | (intro _ h; exact Below.via (by assumption) h)) (hi : nth cs.toList q = some v := by exact rfl) (hp : freeB all L i = true := by kernel_rfl)
    (kk : OrdF P n ds all k Φ F π (L.set i true) ((d, v) :: ρ) w) : OrdF P n ds all k Φ F (i :: π) L ρ w :=
  OrdF.take hp h1 hd hg hgc (fun w hFw => EV.ld ho ht hx ((hb.kp (Kp.of_below (S := fun _ => False) (hF w hFw)) (fun e => e)).cell (by rw [nth_eq, Array.getElem?_toList] at hi; exact hi))) kk
theorem f_K {i1 i2 d1 d2 t t' e : Nat} {o1 o2 : Oper} {x y : Operand} {v : Value} {i : Int} {xs : List Int} {w0 : World} {c1 c2 : Bool} (h1 : all[i1]? = some o1 := by exact rfl) (ho : o1.op = .indexAddr t x y := by exact rfl) (hd1 : o1.dst = some d1 := by exact rfl) (hg1 : gdB all ρ o1.guard = some c1 := by exact rfl) (hc1 : c1 = true := by exact rfl) (h2 : all[i2]? = some o2 := by exact rfl) (ho2 : o2.op = .load t' (.tmp d1) := by exact rfl) (hd2 : o2.dst = some d2 := by exact rfl) (hg2 : ∀ p, gdB all ((d1, .pointer p) :: ρ) o2.guard = some c2 := by exact fun _ => rfl) (hc2 : c2 = true := by exact rfl)
    (ht : tyD P t = some (.slice e) := by exact rfl) (hs : tyS P e = some 1 := by exact rfl) (ha : tyAgg P t' = some false := by exact rfl) (hx : ev ρ x = some v := by exact rfl) (hy : ev ρ y = some (.int .i64 i) := by exact rfl) (hsl : SlI w0 v xs := by first | assumption | exact OI.sl (by assumption)) (hF : ∀ w, F w → Below w0.heap.size w0 w := by first | exact fun _ h => h | (intro _ h; exact Below.via (by assumption) h)) (h0 : 0 ≤ i := by omega) (hi : i < xs.length := by omega) (hp1 : freeB all L i1 = true := by kernel_rfl) (hp2 : freeB all (L.set i1 true) i2 = true := by kernel_rfl)
    (kk : ∀ p, OrdF P n ds all k Φ F π ((L.set i1 true).set i2 true) ((d2, Value.int .i64 (xs.getD i.toNat 0)) :: (d1, p) :: ρ) w) : OrdF P n ds all k Φ F (i1 :: i2 :: π) L ρ w := by
  obtain ⟨hm, A, c, rfl, h⟩ := hsl
  obtain ⟨a, rfl, hc⟩ := h (by omega)
  refine OrdF.take hp1 h1 hd1 hg1 hc1 (fun w _ => EV.idx ho ht hs hx hy h0 hi) ?_
  rw [Nat.mul_one]
  refine OrdF.take hp2 h2 hd2 (hg2 _) hc2 (fun w' hw' => EV.ld ho2 ha (ev_top _ _ _) ?_) (kk _)
  have := cell_kp (Kp.of_below (S := fun _ => False) (hF w' hw')) (hc i.toNat (by omega)) (fun e => e)
  exact this
theorem f_r {i1 i2 d1 d2 t s' t' : Nat} {o1 o2 : Oper} {x y : Operand} {v : Value} {i : Int} {c : List (List Int)} {w0 : World} {c1 c2 : Bool} (e1 : all[i1]? = some o1 := by exact rfl) (h1 : o1.op = .indexAddr t x y := by exact rfl) (hd1 : o1.dst = some d1 := by exact rfl) (hg1 : gdB all ρ o1.guard = some c1 := by exact rfl) (hc1 : c1 = true := by exact rfl) (e2 : all[i2]? = some o2 := by exact rfl) (h2 : o2.op = .load t' (.tmp d1) := by exact rfl) (hd2 : o2.dst = some d2 := by exact rfl) (hg2 : ∀ p, gdB all ((d1, .pointer p) :: ρ) o2.guard = some c2 := by exact fun _ => rfl) (hc2 : c2 = true := by exact rfl)
    (ht : tyD P t = some (.slice s') := by exact rfl) (hs : tyS P s' = some 1 := by exact rfl) (ha : tyAgg P t' = some false := by exact rfl) (hx : ev ρ x = some v := by exact rfl) (hy : ev ρ y = some (.int .i64 i) := by exact rfl) (htr : RowsM w0 v c := by assumption) (hF : ∀ w, F w → Below w0.heap.size w0 w := by first | exact fun _ h => h | (intro _ h; exact Below.via (by assumption) h)) (h0 : 0 ≤ i := by omega) (hi : i < c.length := by omega) (hp1 : freeB all L i1 = true := by kernel_rfl) (hp2 : freeB all (L.set i1 true) i2 = true := by kernel_rfl)
    (kk : ∀ A m p, SlI w0 (.slice A (row c i).length m) (row c i) → OrdF P n ds all k Φ F π ((L.set i1 true).set i2 true) ((d2, .slice A (row c i).length m) :: (d1, p) :: ρ) w) : OrdF P n ds all k Φ F (i1 :: i2 :: π) L ρ w := by
  obtain ⟨a, m, A', m', rfl, hsl, hcell⟩ := htr.at_ h0 hi
  exact OrdF.take hp1 e1 hd1 hg1 hc1 (fun w _ => EV.idx h1 ht hs hx hy h0 hi) (OrdF.take hp2 e2 hd2 (hg2 _) hc2 (fun w hw => EV.ld h2 ha (ev_top _ _ _) (hcell w (hF w hw))) (kk _ _ _ hsl))
end
end Go.Proofs.Ytehjmakiljhjdaa.VW
/- A table of the call's own, row by row. -/
namespace Go.Proofs.Ytehjmakiljhjdaa.VW
open Go Go.RowKit
theorem OrdF.sub {P : Program} {n : Nat} {ds : List Deferred} {Φ : Post} {k : List It} {ρ ρ' : E} {w : World} {all : Array Oper} {F : World → Prop} {π : List Nat} {L : List Bool} (hs : Sub ρ' ρ) (h : OrdF P n ds all k Φ F π L ρ' w) : OrdF P n ds all k Φ F π L ρ w :=
  fun h1 h2 h3 h4 h5 a hr hd => h h1 h2 h3 h4 h5 a (hr.sub hs) hd
theorem OrdF.cut {P : Program} {n : Nat} {ds : List Deferred} {Φ : Post} {k : List It} {ρ : E} {w : World} {all : Array Oper} {F : World → Prop} {π π' : List Nat} {L L' : List Bool} (C : E → World → Prop) (h1 : (∀ ρ1 w1, C ρ1 w1 → OrdF P n ds all k Φ F π' L' ρ1 w1) → OrdF P n ds all k Φ F π L ρ w) (h2 : ∀ ρ1 w1, C ρ1 w1 → OrdF P n ds all k Φ F π' L' ρ1 w1) : OrdF P n ds all k Φ F π L ρ w := h1 h2
theorem OrdF.re {P : Program} {n : Nat} {ds : List Deferred} {Φ : Post} {k : List It} {ρ : E} {w : World} {all : Array Oper} {F : World → Prop} {π : List Nat} (π' : List Nat) {L : List Bool} (he : π'.length = π.length) (h : OrdF P n ds all k Φ F π' L ρ w) : OrdF P n ds all k Φ F π L ρ w := by unfold OrdF at *; rw [← he]; exact h
structure RW (w0 w : World) (ov : Value) (cvs : List Value) (n : Nat) (T : Nat → List Int) : Prop where
  o : OI 23 (fun v : Value => v) w0 w ov cvs
  len : cvs.length = n
  rows : ∀ j, j < n → OI 3 (Value.int .i64) w0 w (cvs.getD j undef) (T j)
  apart : ∀ j, j < n → ∀ b, (cvs.getD j undef).ownBlock = some b → ov.ownBlock ≠ some b ∧ ∀ k, k < n → k ≠ j → (cvs.getD k undef).ownBlock ≠ some b
theorem RW.kp {w0 w w' : World} {ov : Value} {cvs : List Value} {n : Nat} {T : Nat → List Int} {S : Nat → Prop} (h : RW w0 w ov cvs n T) (k : Kp S w w') (hs : ∀ i, S i → w0.heap.size ≤ i ∧ ov.ownBlock ≠ some i ∧ ∀ j, j < n → (cvs.getD j undef).ownBlock ≠ some i) : RW w0 w' ov cvs n T :=
  ⟨h.o.kp k (fun i hi => ⟨(hs i hi).1, (hs i hi).2.1⟩), h.len, fun j hj => (h.rows j hj).kp k (fun i hi => ⟨(hs i hi).1, (hs i hi).2.2 j hj⟩), h.apart⟩
theorem RW.below {w0 w w' : World} {ov : Value} {cvs : List Value} {n : Nat} {T : Nat → List Int} (h : RW w0 w ov cvs n T) (k : Below w.heap.size w w') : RW w0 w' ov cvs n T := h.kp (Kp.of_below (S := fun _ => False) k) (fun _ e => e.elim)
theorem RW.up {w0 w1 w : World} {ov : Value} {cvs : List Value} {n : Nat} {T : Nat → List Int} (h : RW w1 w ov cvs n T) (k : Below w0.heap.size w0 w1) : RW w0 w ov cvs n T := ⟨h.o.up k, h.len, fun j hj => (h.rows j hj).up k, h.apart⟩
theorem setV_eq {α : Type} {os : List α} {i : Nat} {x d : α} (h : i < os.length) : (os.set i x).getD i d = x := by simp [List.getD_eq_getElem?_getD, h]
theorem setV_ne {α : Type} {os : List α} {i j : Nat} {x d : α} (h : i ≠ j) : (os.set i x).getD j d = os.getD j d := by simp [List.getD_eq_getElem?_getD, List.getElem?_set_ne h]
theorem RW.step {w0 w w1 w2 : World} {ov rv : Value} {cvs : List Value} {n i : Nat} {T : Nat → List Int} {u : Int} (h : RW w0 w ov cvs n T) (hi : i < n) (hO1 : OI 3 (Value.int .i64) w0 w1 rv (T i ++ [u])) (k1 : Kp (fun b => (cvs.getD i undef).ownBlock = some b) w w1)
    (hn : ∀ b, rv.ownBlock = some b → (cvs.getD i undef).ownBlock = some b ∨ w.heap.size ≤ b) (hO2 : OI 23 (fun v : Value => v) w0 w2 ov (cvs.set i rv)) (k2 : Kp (fun b => ov.ownBlock = some b) w1 w2) : RW w0 w2 ov (cvs.set i rv) n (fun q => if q = i then T i ++ [u] else T q) := by
  have hl := h.len
  have hlt : ∀ v : Value, ∀ b, (∀ xs : List Int, OI 3 (Value.int .i64) w0 w v xs → v.ownBlock = some b → b < w.heap.size) := fun v b xs hO hb => (hO.own.lt b hb).2
  have hov : ∀ b, rv.ownBlock = some b → ov.ownBlock ≠ some b := fun b hb e => by
    rcases hn b hb with h1 | h1
    · exact (h.apart i hi b h1).1 e
    · have := (h.o.own.lt b e).2; omega
  refine ⟨hO2, by simp [hl], fun j hj => ?_, fun j hj b hb => ?_⟩
  · by_cases e : j = i
    · subst e
      rw [setV_eq (by omega), if_pos rfl]
      exact hO1.kp k2 (fun b hb => ⟨h.o.ge b hb, fun e => hov b e hb⟩)
    · rw [setV_ne (fun h => e h.symm), if_neg e]
      exact ((h.rows j hj).kp k1 (fun b hb => ⟨(h.rows i hi).ge b hb, fun e2 => (h.apart i hi b hb).2 j hj e e2⟩)).kp k2 (fun b hb => ⟨h.o.ge b hb, fun e2 => (h.apart j hj b e2).1 hb⟩)
  · by_cases e : j = i
    · subst e
      rw [setV_eq (by omega)] at hb
      refine ⟨hov b hb, fun k hk hkj e2 => ?_⟩
      rw [setV_ne (fun h => hkj h.symm)] at e2
      rcases hn b hb with h1 | h1
      · exact (h.apart j hj b h1).2 k hk hkj e2
      · have := hlt _ b _ (h.rows k hk) e2; omega
    · rw [setV_ne (fun h => e h.symm)] at hb
      refine ⟨(h.apart j hj b hb).1, fun k hk hkj e2 => ?_⟩
      by_cases e3 : k = i
      · subst e3
        rw [setV_eq (by omega)] at e2
        rcases hn b e2 with h1 | h1
        · exact (h.apart j hj b hb).2 k hk hkj h1
        · have := hlt _ b _ (h.rows j hj) hb; omega
      · rw [setV_ne (fun h => e3 h.symm)] at e2
        exact (h.apart j hj b hb).2 k hk hkj e2
theorem RW.rowsM {w0 w : World} {ov : Value} {cvs : List Value} {n : Nat} {T : Nat → List Int} (h : RW w0 w ov cvs n T) : RowsM w ov ((List.range n).map T) := by
  obtain ⟨hl, A, k, rfl, hc⟩ := h.o.sl (z := undef)
  have hlen := h.len
  refine ⟨by simp; omega, A, k, cvs, by simp [hlen], fun hp => ?_, fun j hj => ?_⟩
  · obtain ⟨a, rfl, hcc⟩ := hc (by simp at hp; omega)
    exact ⟨a, rfl, fun j hj => hcc j (by simp at hj; omega)⟩
  · simp at hj
    have : ((List.range n).map T).getD j [] = T j := by simp [List.getD_eq_getElem?_getD, hj]
    rw [this]
    exact (h.rows j hj).sl
end Go.Proofs.Ytehjmakiljhjdaa.VW
/- Sets as maps whose length is asked for; append behind a slice that is full; slices of arrays. -/
namespace Go.Proofs.Ytehjmakiljhjdaa.VW
open Go Go.RowKit
def addL (ks : List Int) (x : Int) : List Int := if ks.contains x then ks else ks ++ [x]
/-- Block b is a map in which just the numbers of ks stand, with true. -/
def MapL (w : World) (b : Nat) (ks : List Int) : Prop := ∃ (es : Array MapEntry) (c : Nat), w.heap[b]? = some (.map es c) ∧ es.toList.map (fun e => (e.key, e.val)) = ks.map kvI
theorem MapL.kp {w w' : World} {b : Nat} {ks : List Int} {S : Nat → Prop} (h : MapL w b ks) (k : Kp S w w') (hs : ¬ S b) : MapL w' b ks := by
  obtain ⟨es, c, hb, h1⟩ := h
  exact ⟨es, c, by rw [k.blk b (Array.getElem?_eq_some_iff.1 hb).1 hs]; exact hb, h1⟩
theorem MapL.below {w w' : World} {b : Nat} {ks : List Int} (h : MapL w b ks) (k : Below w.heap.size w w') : MapL w' b ks := h.kp (Kp.of_below (S := fun _ => False) k) (fun e => e)
theorem MapL.lt {w : World} {b : Nat} {ks : List Int} (h : MapL w b ks) : b < w.heap.size := by
  obtain ⟨es, c, hb, h1⟩ := h
  exact (Array.getElem?_eq_some_iff.1 hb).1
section
variable {P : Program} [hT : Tab P] {n : Nat} {ds : List Deferred} {Φ : Post} {k : List It} {ρ : E} {w : World} {all : Array Oper} {l : List Oper} {md : Option (List Oper)}
theorem Ops.mkL {o : Oper} {d t : Nat} (ho : o.op = .makeMap t none) (hd : o.dst = some d) (hg : o.guard = none)
    (hk : ∀ w' r, MapL w' r [] → Kp (fun _ => False) w w' → r = w.heap.size → Ops none P n ds all k Φ l ((d, .map (some r)) :: ρ) w') : Ops none P n ds all k Φ (o :: l) ρ w := by
  have hm := mk_alloc w (.map #[] 0)
  refine Ops.val hd hg (fun a hr => ?_) (hk _ _ ⟨#[], 0, hm.at_, rfl⟩ hm.kp rfl)
  have hm' : (Instr.makeMap t none).run P w = .ok (.map (some w.heap.size)) (w.alloc (.map #[] 0)) := rfl
  simp [execOp, ho, hm']
theorem run_putL {t kt et r : Nat} {x : Int} {ks : List Int} (ht : tyD P t = some (.map kt et)) (hk : tyD P kt = some (.int .i64)) (hm : MapL w r ks) :
    ∃ w', (Instr.mapUpdate t (.map (some r)) (.int .i64 x) (.bool true)).run P w = .ok () w' ∧ MapL w' r (addL ks x) ∧ Kp (fun i => i = r) w w' ∧ w'.heap.size = w.heap.size := by
  obtain ⟨es, c, hb, h1⟩ := hm
  have hu := td_map (tyD_ok ht)
  have huk := td_int (tyD_ok hk)
  have hlt := (Array.getElem?_eq_some_iff.1 hb).1
  cases hf : ks.contains x with
  | true =>
    obtain ⟨j, _, h3, h4⟩ := findNow_in (i := 0) h1 hf
    rw [Nat.sub_zero, Array.getElem?_toList] at h4
    refine ⟨_, ?_, ?_, kp_setObj r (.map (es.modify j fun e => { e with key := .int .i64 x, val := .bool true }) c), by simp⟩
    · simp [Instr.mapUpdate, run_und hu, run_getObj_m hb, run_checkKey_int huk, run_findKey_int huk h3]
      rw [h4]
      simp [run_stay, run_setObj_m _ hb]
    · unfold addL
      rw [if_pos hf]
      refine ⟨es.modify j fun e => { e with key := .int .i64 x, val := .bool true }, c, by simp [hlt], ?_⟩
      rw [← h1]
      apply List.ext_getElem?
      intro i
      simp only [List.getElem?_map, Array.getElem?_toList, Array.getElem?_modify]
      split
      · rename_i e
        subst e
        obtain ⟨hj1, hj2⟩ : ∃ e, es[j]? = some e ∧ e.key = .int .i64 x := by
          cases he : es[j]? with
          | none => rw [he] at h4; simp at h4
          | some e => rw [he] at h4; simp at h4; exact ⟨e, rfl, h4⟩
        have hv : (es.toList.map fun e => (e.key, e.val))[j]? = (ks.map kvI)[j]? := by rw [h1]
        simp only [List.getElem?_map, Array.getElem?_toList, hj2.1, Option.map_some] at hv
        rw [hj2.1]
        simp only [Option.map_some, Option.some.injEq]
        cases hq : ks[j]? with
        | none => rw [hq] at hv; simp at hv
        | some q => rw [hq] at hv; simp [kvI] at hv; rw [hj2.2, hv.2]
      · rfl
  | false =>
    have h3 := findNow_out (i := 0) h1 hf
    refine ⟨_, ?_, ?_, kp_setObj r (.map (es.push { key := .int .i64 x, val := .bool true, born := c }) (c + 1)), by simp⟩
    · simp [Instr.mapUpdate, run_und hu, run_getObj_m hb, run_checkKey_int huk, run_findKey_int huk h3, run_setObj_m _ hb]
    · unfold addL
      rw [hf]
      exact ⟨es.push { key := .int .i64 x, val := .bool true, born := c }, c + 1, by simp [hlt], by simp [h1, kvI]⟩
theorem Ops.putL {o : Oper} {t kt et r : Nat} {x y z : Operand} {i : Int} {ks : List Int} (ho : o.op = .mapUpdate t x y z) (hd : o.dst = none) (hg : o.guard = none)
    (ht : tyD P t = some (.map kt et)) (hkt : tyD P kt = some (.int .i64)) (hx : ev ρ x = some (.map (some r))) (hy : ev ρ y = some (.int .i64 i)) (hz : ev ρ z = some (.bool true)) (hm : MapL w r ks)
    (hk : ∀ w', MapL w' r (addL ks i) → Kp (fun i => i = r) w w' → w'.heap.size = w.heap.size → Ops none P n ds all k Φ l ρ w') : Ops none P n ds all k Φ (o :: l) ρ w := by
  obtain ⟨w', hrun, h1, h2, h3⟩ := run_putL (x := i) ht hkt hm
  refine Ops.unit hg hd (fun a hr => ?_) (hk w' h1 h2 h3)
  simp [execOp, ho, hr.ev hx, hr.ev hy, hr.ev hz, hrun]
/-- len(m) -/
theorem Ops.lenM {o : Oper} {d t kt et r : Nat} {x : Operand} {ks : List Int} (ho : o.op = .call { callee := .builtin .len, args := #[x], argTypes := #[t] }) (hd : o.dst = some d) (hg : o.guard = none)
    (ht : tyD P t = some (.map kt et)) (hx : ev ρ x = some (.map (some r))) (hm : MapL w r ks) (hk : Ops md P n ds all k Φ l ((d, .int .i64 (ks.length : Int)) :: ρ) w) : Ops md P n ds all k Φ (o :: l) ρ w := by
  refine Ops.valS hd hg (fun a hr => ?_) hk
  obtain ⟨es, c, hb, h1⟩ := hm
  have hs : es.size = ks.length := by
    have := congrArg List.length h1
    simpa using this
  simp [execOp, ho, resolve, hr.ev hx, invoke, builtin, Builtin.len_, run_und (td_map (tyD_ok ht)), run_getObj_m hb, goInt, hs]
/-- x[:m:m] of a slice of length m. -/
theorem Ops.sl3 {o : Oper} {d t e sz m c : Nat} {x y z : Operand} {A : Option Addr} (ho : o.op = .slice t x none (some y) (some z)) (hd : o.dst = some d) (hg : o.guard = none)
    (ht : tyD P t = some (.slice e)) (hs : tyS P e = some sz) (hx : ev ρ x = some (.slice A m c)) (hy : ev ρ y = some (.int .i64 (m : Int))) (hz : ev ρ z = some (.int .i64 (m : Int))) (h1 : m ≤ c) (hk : Ops md P n ds all k Φ l ((d, .slice A m m) :: ρ) w) : Ops md P n ds all k Φ (o :: l) ρ w := by
  refine Ops.valS hd hg (fun a hr => ?_) hk
  have e0 : A.map (fun p : Addr => p.add 0) = A := by cases A <;> simp [Addr.add]
  simp [execOp, ho, hr.ev hx, hr.ev hy, hr.ev hz, Instr.sliceAt, Instr.slice, Instr.sliceBounds, Instr.sliceBound, asIntOf, run_und (td_slice (tyD_ok ht)), run_sizeOf hs, h1, e0]
/-- append(s, x) where s has no room. -/
theorem Ops.pushG {α : Type} {enc : α → Value} {z0 : α} {o1 o2 : Oper} {d1 d2 t e by' m : Nat} {x y : Operand} {u : α} {A : Option Addr} {z : Value} {xs : List α}
    (h1 : o1.op = .buildSlice t 1 #[(0, x)]) (hd1 : o1.dst = some d1) (hg1 : o1.guard = none) (h2 : o2.op = .call { callee := .builtin .append, args := #[y, .tmp d1], argTypes := #[t, t] }) (hd2 : o2.dst = some d2) (hg2 : o2.guard = none)
    (ht : tyD P t = some (.slice e)) (hs : tyS P e = some 1) (hb : tyB P e = some (by' + 1)) (hz : tyZ P e = some z) (hzs : z.cells.size = 1) (hx : ev ρ x = some (enc u)) (hy : ∀ p, ev ((d1, p) :: ρ) y = some (.slice A m m)) (hu : (enc u).oneCell' = true) (hnil : A = none → m = 0)
    (hS : Sl enc z0 w (.slice A m m) xs) (hbytes : (xs.length + 1) * (by' + 1) ≤ 140737488355328)
    (hk : ∀ lv' p w', OI e enc w w' lv' (xs ++ [u]) → Ops none P n ds all k Φ l ((d2, lv') :: (d1, p) :: ρ) w') : Ops none P n ds all k Φ (o1 :: o2 :: l) ρ w := by
  refine Ops.bs1 h1 hd1 hg1 ht hs hz hzs hx hu (fun w1 r hM => ?_)
  obtain ⟨f, hi, h2', h3, h4⟩ := tyE_ok hs hb hz
  have hS1 := hS.kp hM.kp (fun _ _ e => e)
  have hb1 : Below w.heap.size w w1 := Below.put (Below.refl _ _) hM.kp (fun _ e => e.elim)
  obtain ⟨hm', A', c', e1, hc⟩ := hS1
  cases e1
  have hone := own_one hM
  have hnews : ∀ j v, [enc u][j]? = some v → w1.cell? ((⟨r, 0, none⟩ : Addr).add j) = some v := hone.cells (g := r) rfl
  have hl5 : xs.length + 1 ≤ (xs.length + 1) * (by' + 1) := Nat.le_mul_of_pos_right _ (by omega)
  have key : ∀ (cap : Nat) (cs : Array Value), cap = grownCap w1 (xs.length + 1) xs.length e → cs.size = cap → cs.toList.take (xs.length + 1) = (xs ++ [u]).map enc → OI e enc w (w1.drew.alloc (.cells cs e)) (.slice (some ⟨w1.heap.size, 0, none⟩) (xs.length + 1) cap) (xs ++ [u]) := by
    intro cap cs hcap hcs ht'
    have hal := mk_alloc w1.drew (.cells cs e)
    have hd : Below w1.heap.size w1 w1.drew := Kp.below (kp_drew w1) (Nat.le_refl _) (fun _ _ e => e)
    refine ⟨Below.via hb1 (Below.put hd hal.kp (fun _ e => e.elim)), ⟨by simp, .inr ⟨w1.heap.size, cap, cs, by simp, Nat.zero_le _, hal.at_, ?_, ?_, by omega, by simpa using ht'⟩⟩, fun j hj => by simp [Value.ownBlock] at hj; have := hb1.size; omega⟩
    · rw [hcap]; have := grownCap_ge w1 (xs.length + 1) xs.length e; simpa using this
    · rw [hcap]; exact grownCap_le_maxLen w1 _ _ e (by simp only [maxLen]; omega)
  have hrun : ∃ v' w', (Builtin.append_ #[t, t] o2.type #[.slice A xs.length xs.length, .slice (some ⟨r, 0, none⟩) 1 1]).run P w1 = .ok v' w' ∧ OI e enc w w' v' (xs ++ [u]) := by
    cases A with
    | none =>
      have hx0 : xs = [] := List.eq_nil_of_length_eq_zero (hnil rfl)
      subst hx0
      have hr := run_append_nil (P := P) w1 t o2.type e f z (td_slice (tyD_ok ht)) hi h4 ⟨r, 0, none⟩ 1 1 [enc u] (by rw [h2']; rfl) hnews (by omega) (by omega) (by rw [h3]; simp only [List.length_nil, Nat.zero_add] at hbytes; omega)
      refine ⟨_, _, hr, ?_⟩
      have := key _ ([enc u].toArray ++ Builtin.zeroCells z.cells (grownCap w1 1 0 e - 1)) rfl (by have := grownCap_ge w1 1 0 e; simp [size_zeroCells, hzs]; omega) (by simp)
      simpa using this
    | some a =>
      have hold : ∀ j v, (xs.map enc)[j]? = some v → w1.cell? (a.add j) = some v := fun j v hj => by
        rw [List.getElem?_map, Option.map_eq_some_iff] at hj
        obtain ⟨q, hq, rfl⟩ := hj
        have hjl := (List.getElem?_eq_some_iff.1 hq).1
        obtain ⟨a', ea, hcc⟩ := hc (by omega)
        cases ea
        rw [hcc j hjl]
        simp [List.getD_eq_getElem?_getD, hq]
      have hr := run_append_grow (P := P) w1 t o2.type e f z (td_slice (tyD_ok ht)) hi h4 a xs.length xs.length (xs.map enc) (by rw [h2']; simp) hold ⟨r, 0, none⟩ 1 1 [enc u] (by rw [h2']; rfl) hnews (by omega) (by omega) (by rw [h3]; exact growslice_fits (by omega) hbytes)
      refine ⟨_, _, hr, ?_⟩
      refine key _ ((xs.map enc).toArray ++ [enc u].toArray ++ Builtin.zeroCells z.cells (grownCap w1 (xs.length + 1) xs.length e - (xs.length + 1))) rfl ?_ ?_
      · have := grownCap_ge w1 (xs.length + 1) xs.length e; simp [size_zeroCells, hzs]; omega
      · simp only [Array.toList_append, List.map_append, List.map_cons, List.map_nil]
        rw [List.take_append_of_le_length (by simp)]
        rw [List.take_of_length_le (by simp)]
  obtain ⟨v', w', hr', hO⟩ := hrun
  refine Ops.val hd2 hg2 (fun a hr => ?_) (hk v' _ w' hO)
  simp [execOp, h2, resolve, invoke, builtin, hr.ev (hy _), hr.ev (ev_top _ _ _), hr']
/-- p[1:h] of an array. -/
theorem EV.slA {o : Oper} {t e len h : Nat} {x y z : Operand} {a : Addr} (ho : o.op = .slice t x (some z) (some y) none) (ht : tyD P t = some (.array len e)) (hs : tyS P e = some 1) (hx : ev ρ x = some (.pointer (some a))) (hz : ev ρ z = some (.int .i64 1)) (hy : ev ρ y = some (.int .i64 (h : Int))) (h0 : 1 ≤ h) (h1 : h ≤ len) (h2 : 1 < len) :
    EV P n ρ w o (.slice (some (a.add 1)) (h - 1) (len - 1)) := by
  intro c hr
  have hne : ¬ len = 1 := by omega
  have hne2 : ¬ ((h : Int) < 1) := by omega
  simp [hne2, execOp, ho, hr.ev hx, hr.ev hy, hr.ev hz, Instr.sliceAt, Instr.sureAddr, Instr.sliceBounds, Instr.sliceBound, asIntOf, run_und (td_array (tyD_ok ht)), run_sizeOf hs, h0, h1, hne]
end
end Go.Proofs.Ytehjmakiljhjdaa.VW
namespace Go.Proofs.Ytehjmakiljhjdaa
open Go Go.RowKit Go.Proofs.Ytehjmakiljhjdaa.VW
attribute [local irreducible] W Ops OrdA VW.Ord OrdX
/-- The holes that a row has for w, as far as column m. -/
def rowH (r : List Int) (w : Int) (ks : List Int) : Nat → List Int
  | 0 => ks
  | m + 1 => if r.getD m 0 ≤ w then addL (rowH r w ks m) m else rowH r w ks m
def holesH (c : List (List Int)) (w : Int) (l : List Int) : Nat → List Int
  | 0 => []
  | k + 1 => rowH (c.getD (l.getD k 0).toNat []) w (holesH c w l k) c.length
/-- Buttons of c, in order. -/
def inOrd (n : Nat) (l : List Int) : Prop := ∀ k, k < l.length → (0 ≤ l.getD k 0 ∧ l.getD k 0 < n) ∧ (0 < k → l.getD (k - 1) 0 < l.getD k 0)
instance (n : Nat) (l : List Int) : Decidable (inOrd n l) := by unfold inOrd; infer_instance
/-- A block, as the program finds it. -/
def BlkS (c : List (List Int)) (w : Int) (l : List Int) : Prop := inOrd c.length l ∧ (holesH c w l l.length).length < l.length
instance (c : List (List Int)) (w : Int) (l : List Int) : Decidable (BlkS c w l) := by unfold BlkS; infer_instance
set_option maxHeartbeats 2000000 in
theorem isBlock_c {w : World} {cv lv : Value} {c : List (List Int)} {x : Int} {l : List Int} (hM : RowsM w cv c) (hC : Cst c) (hl : SlI w lv l) :
    Calls Try.prog 57 #[cv, .int .i64 x, lv] w (Ret fun r w' => r = .bool (decide (BlkS c x l)) ∧ Below w.heap.size w w') := by
  have hn7 := hC.n7
  have hll := Sl.len hl
  obtain ⟨Ac, cc, rfl⟩ := hM.sl
  obtain ⟨A, k, rfl⟩ := Sl.shape hl
  have hdec : (BlkS c x l → False) → Value.bool false = Value.bool (decide (BlkS c x l)) := fun h2 => by rw [decide_eq_false h2]
  refine calls_W (vs := [_, _, _]) Try.func57 rfl (by kernel_rfl) rfl ?_
  (repeat (first | with_reducible refine W.seq ?_ | with_reducible refine Ops.nil ?_ | with_reducible refine W.region ?_ | refine z_p (kk := ?_)))
  refine Ops.mkL rfl rfl rfl (fun w1 b hm1 hk1 hb1 => ?_)
  have hbel1 : Below w.heap.size w w1 := Below.put (Below.refl _ _) hk1 (fun _ e => e.elim)
  (repeat (first | with_reducible refine W.seq ?_ | with_reducible refine Ops.nil ?_ | with_reducible refine W.region ?_ | refine z_p (kk := ?_) | with_reducible refine W.block ?_ | refine z_l (kk := ?_)))
  refine W.loop (fun m ρ w2 => ∃ (i : Nat), m = l.length - i ∧ i ≤ l.length ∧ ρ = [(0, .slice Ac c.length cc), (1, .int .i64 x), (2, .slice A l.length k), (7, .map (some b)), (13, .slice A l.length k), (14, .int .i64 l.length), (15, .int .i64 i)] ∧ Below w.heap.size w w2 ∧ MapL w2 b (holesH c x l i) ∧ ∀ q, q < i → (0 ≤ l.getD q 0 ∧ l.getD q 0 < c.length) ∧ (0 < q → l.getD (q - 1) 0 < l.getD q 0))
    ⟨_, _, ⟨0, rfl, Nat.zero_le _, rfl, hbel1, hm1, fun q hq => by omega⟩, (by repeat (first | exact trivial | refine And.intro rfl ?_))⟩ ?_
  rintro m ρ w2 ⟨i, rfl, hi, rfl, hb2, hm2, hok⟩
  have hbge : w.heap.size ≤ b := by omega
  (repeat (first | with_reducible refine W.seq ?_ | with_reducible refine Ops.nil ?_ | with_reducible refine W.region ?_ | refine z_p (kk := ?_)))
  (first | refine W.condD rfl (fun hc => ?_) (fun hc => ?_) | refine W.condE rfl (fun hc => ?_) (fun hc => ?_) | refine W.condN rfl (fun hc => ?_) (fun hc => ?_) | refine W.cond rfl (fun hc => ?_) (fun hc => ?_))
  · have hil : i < l.length := by omega
    (repeat (first | with_reducible refine W.seq ?_ | with_reducible refine Ops.nil ?_ | with_reducible refine W.region ?_ | refine z_p (kk := ?_) | refine z_a (kk := ?_) | with_reducible refine W.skip ?_ | with_reducible refine W.block ?_ | refine z_l (kk := ?_) | refine z_I (kk := fun _ => ?_)))
    refine Ops.callS rfl rfl rfl rfl rfl (within_c _ _ _ _) ?_
    cases hin : inR (l.getD i 0) 0 (c.length - 1) with
    | false =>
      (repeat (first | with_reducible refine Ops.nil ?_ | refine z_p (kk := ?_) | refine z_n (kk := ?_) | refine z_u (kk := ?_)))
      refine W.condT rfl (by first | rfl | assumption | (simp only [bnf] <;> omega) | (simp only [*, bnf]; done) | fail) ?_
      (repeat (first | with_reducible refine W.seq ?_ | with_reducible refine Ops.nil ?_ | with_reducible refine W.region ?_ | refine z_p (kk := ?_)))
      refine W.fret rfl ⟨hdec fun h => ?_, hb2⟩
      have := (h.1 i hil).1
      rw [← Bool.not_eq_true] at hin
      refine hin ?_
      simp only [inR, Bool.and_eq_true, decide_eq_true_eq]
      omega
    | true =>
      simp only [inR, Bool.and_eq_true, decide_eq_true_eq] at hin
      by_cases hbad : 0 < i ∧ l.getD (i - 1) 0 ≥ l.getD i 0
      · obtain ⟨h0, h1⟩ := hbad
        have e1 : ((i : Int) - 1) = ((i - 1 : Nat) : Int) := by omega
        (repeat (first | with_reducible refine Ops.nil ?_ | refine z_p (kk := ?_) | refine z_a (kk := ?_) | refine z_y (kk := ?_) | refine z_K (kk := fun _ => ?_) | refine z_h (kk := ?_)))
        rw [e1]
        skip
        refine W.condT rfl (by first | rfl | assumption | (simp only [bnf] <;> omega) | (simp only [*, bnf]; done) | fail) ?_
        (repeat (first | with_reducible refine W.seq ?_ | with_reducible refine Ops.nil ?_ | with_reducible refine W.region ?_ | refine z_p (kk := ?_)))
        exact W.fret rfl ⟨hdec fun h => by have := (h.1 i hil).2 h0; omega, hb2⟩
      · have hgd : 0 < i → l.getD (i - 1) 0 < l.getD i 0 := fun h => by
          by_cases h2 : l.getD (i - 1) 0 < l.getD i 0
          · exact h2
          · exact absurd ⟨h, by omega⟩ hbad
        refine Ops.cut (fun ρ w' => ρ = [(0, .slice Ac c.length cc), (1, .int .i64 x), (2, .slice A l.length k), (7, .map (some b)), (9, .int .i64 (l.getD i 0)), (13, .slice A l.length k), (14, .int .i64 l.length), (15, .int .i64 i), (38, .bool false)] ∧ w' = w2) ?_ ?_
        · by_cases h0 : 0 < i
          · have e1 : ((i : Int) - 1) = ((i - 1 : Nat) : Int) := by omega
            have h3 := hgd h0
            (repeat (first | with_reducible refine Ops.nil ?_ | refine z_p (kk := ?_) | refine z_a (kk := ?_) | refine z_y (kk := ?_) | refine z_K (kk := fun _ => ?_) | refine z_h (kk := ?_)))
            rw [e1]
            skip
            exact W.endl ⟨_, ⟨rfl, rfl⟩, (by repeat (first | exact trivial | refine And.intro rfl ?_ | refine And.intro (look_b rfl (by first | rfl | assumption | (simp only [bnf] <;> omega) | (simp only [*, bnf]; done) | fail)) ?_))⟩
          · (repeat (first | with_reducible refine Ops.nil ?_ | refine z_p (kk := ?_) | refine z_y (kk := ?_) | refine z_n (kk := ?_) | refine z_g (kk := ?_)))
            exact W.endl ⟨_, ⟨rfl, rfl⟩, (by repeat (first | exact trivial | refine And.intro rfl ?_ | refine And.intro (look_b rfl (by first | rfl | assumption | (simp only [bnf] <;> omega) | (simp only [*, bnf]; done) | fail)) ?_))⟩
        rintro ρ w3 ⟨rfl, rfl⟩
        have hri : row c (l.getD i 0) = c.getD (l.getD i 0).toNat [] := rfl
        have hcl := hC.len (l.getD i 0).toNat (by omega)
        rw [← hri] at hcl
        skip
        refine W.condF rfl (by first | rfl | assumption | (simp only [bnf] <;> omega) | (simp only [*, bnf]; done) | fail) ?_
        (repeat (first | with_reducible refine W.seq ?_ | with_reducible refine Ops.nil ?_ | with_reducible refine W.region ?_ | refine z_p (kk := ?_) | with_reducible refine W.skip ?_ | with_reducible refine W.block ?_ | refine z_l (kk := ?_) | refine z_r (kk := fun _ _ _ _ => ?_)))
        rename_i Ar mr pr hsl
        refine W.loop (fun m ρ w4 => ∃ (j : Nat), m = c.length - j ∧ j ≤ c.length ∧ ρ = [(0, .slice Ac c.length cc), (1, .int .i64 x), (2, .slice A l.length k), (7, .map (some b)), (13, .slice A l.length k), (14, .int .i64 l.length), (15, .int .i64 i), (42, .slice Ar (row c (l.getD i 0)).length mr), (43, .int .i64 (row c (l.getD i 0)).length), (44, .int .i64 j)] ∧ Below w.heap.size w w4 ∧ MapL w4 b (rowH (row c (l.getD i 0)) x (holesH c x l i) j))
          ⟨_, _, ⟨0, rfl, Nat.zero_le _, rfl, hb2, hm2⟩, (by repeat (first | exact trivial | refine And.intro rfl ?_))⟩ ?_
        rintro m ρ w4 ⟨j, rfl, hj, rfl, hb4, hm4⟩
        (repeat (first | with_reducible refine W.seq ?_ | with_reducible refine Ops.nil ?_ | with_reducible refine W.region ?_ | refine z_p (kk := ?_)))
        (first | refine W.condD rfl (fun hc => ?_) (fun hc => ?_) | refine W.condE rfl (fun hc => ?_) (fun hc => ?_) | refine W.condN rfl (fun hc => ?_) (fun hc => ?_) | refine W.cond rfl (fun hc => ?_) (fun hc => ?_))
        · have hjl : j < c.length := by omega
          by_cases hle : (row c (l.getD i 0)).getD j 0 ≤ x
          · (repeat (first | with_reducible refine W.seq ?_ | with_reducible refine Ops.nil ?_ | with_reducible refine W.region ?_ | refine z_p (kk := ?_) | with_reducible refine W.skip ?_ | with_reducible refine W.block ?_ | refine z_I (kk := fun _ => ?_)))
            refine W.condT rfl (by first | rfl | assumption | (simp only [bnf] <;> omega) | (simp only [*, bnf]; done) | fail) ?_
            (repeat (first | with_reducible refine W.region ?_ | refine z_p (kk := ?_)))
            refine Ops.putL rfl rfl rfl rfl rfl rfl rfl rfl hm4 (fun w5 hm5 hk5 hs5 => ?_)
            (repeat (first | with_reducible refine Ops.nil ?_ | with_reducible refine W.region ?_ | refine z_p (kk := ?_) | refine z_a (kk := ?_) | with_reducible refine W.endb ?_))
            refine W.endl ⟨_, _, ⟨⟨j + 1, rfl, by omega, rfl, Below.put hb4 hk5 (fun i e => by omega), ?_⟩, by omega⟩, (by repeat (first | exact trivial | refine And.intro rfl ?_))⟩
            rw [rowH, if_pos hle]
            exact hm5
          · (repeat (first | with_reducible refine W.seq ?_ | with_reducible refine Ops.nil ?_ | with_reducible refine W.region ?_ | refine z_p (kk := ?_) | with_reducible refine W.skip ?_ | with_reducible refine W.block ?_ | refine z_I (kk := fun _ => ?_)))
            refine W.condF rfl (by first | rfl | assumption | (simp only [bnf] <;> omega) | (simp only [*, bnf]; done) | fail) ?_
            (repeat (first | with_reducible refine Ops.nil ?_ | with_reducible refine W.region ?_ | refine z_p (kk := ?_) | refine z_a (kk := ?_) | with_reducible refine W.skip ?_ | with_reducible refine W.endb ?_))
            refine W.endl ⟨_, _, ⟨⟨j + 1, rfl, by omega, rfl, hb4, ?_⟩, by omega⟩, (by repeat (first | exact trivial | refine And.intro rfl ?_))⟩
            rw [rowH, if_neg hle]
            exact hm4
        · have hjl : j = c.length := by omega
          subst hjl
          (repeat (first | with_reducible refine Ops.nil ?_ | with_reducible refine W.region ?_ | refine z_p (kk := ?_) | refine z_a (kk := ?_) | with_reducible refine W.endb ?_ | refine W.exit rfl ?_))
          refine W.endl ⟨_, _, ⟨⟨i + 1, rfl, by omega, rfl, hb4, hm4, fun q hq => ?_⟩, by omega⟩, (by repeat (first | exact trivial | refine And.intro rfl ?_))⟩
          by_cases e : q = i
          · rw [e]; exact ⟨⟨by omega, by omega⟩, hgd⟩
          · exact hok q (by omega)
  · have hil : i = l.length := by omega
    subst hil
    (repeat (first | with_reducible refine W.seq ?_ | with_reducible refine W.region ?_ | refine z_p (kk := ?_) | refine W.exit rfl ?_))
    refine Ops.lenM rfl rfl rfl rfl rfl hm2 ?_
    (repeat (first | with_reducible refine Ops.nil ?_ | refine z_p (kk := ?_) | refine z_l (kk := ?_)))
    refine W.fret rfl ⟨?_, hb2⟩
    show Value.bool _ = _
    congr 1
    rw [Bool.eq_iff_iff, decide_eq_true_iff, decide_eq_true_iff]
    exact ⟨fun h => ⟨hok, by omega⟩, fun h => by have := h.2; omega⟩
theorem IsBlock_c {w : World} {cv lv : Value} {c : List (List Int)} {x : Int} {l : List Int} (hM : RowsM w cv c) (hl : SlI w lv l) :
    Calls Try.prog 19 #[cv, .int .i64 x, lv] w (Ret fun r w' => r = (if costsB c then .tuple #[.bool (decide (BlkS c x l)), .int .i64 0] else .tuple #[.bool false, .int .i64 2]) ∧ Below w.heap.size w w') := by
  obtain ⟨Ac, cc, rfl⟩ := hM.sl
  refine calls_W (vs := [_, _, _]) Try.func19 rfl (by kernel_rfl) rfl ?_
  (repeat (first | with_reducible refine W.seq ?_ | with_reducible refine Ops.nil ?_ | with_reducible refine W.region ?_ | refine z_p (kk := ?_)))
  refine Ops.call rfl rfl rfl rfl rfl (areCosts_c hM) (fun r w1 hR => ?_)
  obtain ⟨rfl, hb1⟩ := hR
  cases hcB : costsB c with
  | false =>
    (repeat (first | with_reducible refine Ops.nil ?_ | refine z_p (kk := ?_)))
    refine W.condT rfl (by first | rfl | assumption | (simp only [bnf] <;> omega) | (simp only [*, bnf]; done) | fail) ?_
    (repeat (first | with_reducible refine W.seq ?_ | with_reducible refine Ops.nil ?_ | with_reducible refine W.region ?_ | refine z_p (kk := ?_)))
    exact W.fret rfl ⟨rfl, hb1⟩
  | true =>
    (repeat (first | with_reducible refine Ops.nil ?_ | refine z_p (kk := ?_)))
    refine W.condF rfl (by first | rfl | assumption | (simp only [bnf] <;> omega) | (simp only [*, bnf]; done) | fail) ?_
    (repeat (first | with_reducible refine W.seq ?_ | with_reducible refine W.region ?_ | refine z_p (kk := ?_) | with_reducible refine W.skip ?_))
    refine Ops.call rfl rfl rfl rfl rfl (isBlock_c (hM.below hb1) (costs_iff.1 hcB) (Sl.below hl hb1)) (fun v w2 hR => ?_)
    obtain ⟨rfl, hb2⟩ := hR
    (repeat (first | with_reducible refine Ops.nil ?_ | refine z_p (kk := ?_)))
    exact W.fret rfl ⟨rfl, Below.via hb1 hb2⟩
end Go.Proofs.Ytehjmakiljhjdaa
/- slices.Sort at a slice of the call's own. (lays189: laid by the kit's shelf tool.) -/
namespace Go.Proofs
open Go.Shelf
def Try.lays189_ren : Go.Shelf.Ren := ⟨fun | 189 => 55 | 125 => 87 | 257 => 86 | 128 => 107 | 129 => 108 | 294 => 98 | 295 => 99 | 296 => 100 | 297 => 101 | 298 => 102 | 299 => 103 | 216 => 104 | 300 => 105 | 301 => 106 | 328 => 121 | 329 => 122 | 330 => 123 | 331 => 124 | 332 => 125 | 215 => 92 | 343 => 130 | n => n, fun | 28 => 23 | 3 => 3 | 46 => 74 | 0 => 0 | 51 => 127 | 53 => 129 | 4 => 4 | 183 => 121 | 182 => 120 | 131 => 109 | 5 => 5 | 9 => 9 | 218 => 141 | 222 => 145 | 228 => 149 | 229 => 150 | n => n, fun | n => n⟩
theorem Try.lays189 : Go.Proofs.Lays.n189 Try.prog Try.lays189_ren := {
  mixed := by kernel_rfl
  f125 := Try.func87.trans (congrArg some (by kernel_rfl))
  f128 := Try.func107.trans (congrArg some (by kernel_rfl))
  f129 := Try.func108.trans (congrArg some (by kernel_rfl))
  f189 := Try.func55.trans (congrArg some (by kernel_rfl))
  f215 := Try.func92.trans (congrArg some (by kernel_rfl))
  f216 := Try.func104.trans (congrArg some (by kernel_rfl))
  f257 := Try.func86.trans (congrArg some (by kernel_rfl))
  f294 := Try.func98.trans (congrArg some (by kernel_rfl))
  f295 := Try.func99.trans (congrArg some (by kernel_rfl))
  f296 := Try.func100.trans (congrArg some (by kernel_rfl))
  f297 := Try.func101.trans (congrArg some (by kernel_rfl))
  f298 := Try.func102.trans (congrArg some (by kernel_rfl))
  f299 := Try.func103.trans (congrArg some (by kernel_rfl))
  f300 := Try.func105.trans (congrArg some (by kernel_rfl))
  f301 := Try.func106.trans (congrArg some (by kernel_rfl))
  f328 := Try.func121.trans (congrArg some (by kernel_rfl))
  f329 := Try.func122.trans (congrArg some (by kernel_rfl))
  f330 := Try.func123.trans (congrArg some (by kernel_rfl))
  f331 := Try.func124.trans (congrArg some (by kernel_rfl))
  f332 := Try.func125.trans (congrArg some (by kernel_rfl))
  f343 := Try.func130.trans (congrArg some (by kernel_rfl))
  t0 := Try.underlying0
  a0 := Try.isAgg0
  z0 := Try.sizeOf0
  v0 := Try.zeroValue0
  t3 := Try.underlying3
  a3 := Try.isAgg3
  z3 := Try.sizeOf3
  v3 := Try.zeroValue3
  t4 := Try.underlying4
  a4 := Try.isAgg4
  z4 := Try.sizeOf4
  v4 := Try.zeroValue4
  t5 := Try.underlying5
  a5 := Try.isAgg5
  z5 := Try.sizeOf5
  v5 := Try.zeroValue5
  t9 := Try.underlying9
  a9 := Try.isAgg9
  z9 := Try.sizeOf9
  v9 := Try.zeroValue9
  t28 := Try.underlying23
  a28 := Try.isAgg23
  z28 := Try.sizeOf23
  v28 := Try.zeroValue23
  t46 := Try.underlying74
  a46 := Try.isAgg74
  z46 := Try.sizeOf74
  v46 := Try.zeroValue74
  t51 := Try.underlying127
  a51 := Try.isAgg127
  z51 := Try.sizeOf127
  v51 := Try.zeroValue127
  t53 := Try.underlying129
  a53 := Try.isAgg129
  z53 := Try.sizeOf129
  v53 := Try.zeroValue129
  t131 := Try.underlying109
  a131 := Try.isAgg109
  z131 := Try.sizeOf109
  v131 := Try.zeroValue109
  t182 := Try.underlying120
  a182 := Try.isAgg120
  z182 := Try.sizeOf120
  v182 := Try.zeroValue120
  t183 := Try.underlying121
  a183 := Try.isAgg121
  z183 := Try.sizeOf121
  v183 := Try.zeroValue121
  t218 := Try.underlying141
  a218 := Try.isAgg141
  z218 := Try.sizeOf141
  v218 := Try.zeroValue141
  t222 := Try.underlying145
  a222 := Try.isAgg145
  z222 := Try.sizeOf145
  v222 := Try.zeroValue145
  t228 := Try.underlying149
  a228 := Try.isAgg149
  z228 := Try.sizeOf149
  v228 := Try.zeroValue149
  t229 := Try.underlying150
  a229 := Try.isAgg150
  z229 := Try.sizeOf150
  v229 := Try.zeroValue150 }
open Go.Sort Go.RowKit in
theorem Try.slices_Sort_int (blk off cap : Nat) (zs : List Int) (w : World) (hH : Holds (Value.int .i64) w blk off zs.toArray) (hblk : blk < w.heap.size) (hsz : zs.length < 4611686018427387904) :
    Calls Try.prog 55 #[.slice (some ⟨blk, off, none⟩) zs.length cap] w fun e w' =>
      e = .returned (.tuple #[]) ∧ ∃ n os, w' = grow (putRow (Value.int .i64) (Sort.ahead w n) blk off (zs.mergeSort fun x y => decide (x ≤ y)).toArray) os := Any.slices_Sort_int Try.lays189 blk off cap zs w hH hblk hsz
end Go.Proofs
namespace Go.Proofs.Ytehjmakiljhjdaa
open Go Go.RowKit Go.Proofs.Ytehjmakiljhjdaa.VW
theorem sort_c {w : World} {v : Value} {xs : List Int} (hown : w.ownsRow 0 3 1 v xs.length (xs.map (Value.int .i64))) (hp : 0 < xs.length) (hl : xs.length < 4611686018427387904) :
    Calls Try.prog 55 #[v] w (Ret fun r w' => r = .tuple #[] ∧ w'.ownsRow 0 3 1 v xs.length ((xs.mergeSort fun x y => decide (x ≤ y)).map (Value.int .i64)) ∧ Kp (fun i => v.ownBlock = some i) w w') := by
  have ho := hown
  rcases hown.2 with ⟨rfl, h0⟩ | ⟨g, cap, cur, rfl, _, hg, hnc, hcm, hcs, ht⟩
  · omega
  · have hlt : g < w.heap.size := (Array.getElem?_eq_some_iff.1 hg).1
    refine (Try.slices_Sort_int g 0 cap xs w ?_ hlt hl).mono ?_
    · intro j hj
      have hj' : j < xs.length := by simpa using hj
      refine ⟨?_, ?_⟩
      · have := ho.cells (g := g) rfl j (.int .i64 xs[j]) (by simp [hj'])
        rw [add_lit] at this
        rw [this]
        simp [hj']
      · simp [World.frozen?, hg]
    · rintro e w' ⟨rfl, n, os, rfl⟩
      have hlen : (xs.mergeSort fun x y => decide (x ≤ y)).length = xs.length := List.length_mergeSort _
      have hsz : (Go.Sort.putRow (Value.int .i64) (Go.Sort.ahead w n) g 0 (xs.mergeSort fun x y => decide (x ≤ y)).toArray).heap.size = w.heap.size := by
        simp [Go.Sort.putRow, Go.Sort.mapBlock, Go.Sort.ahead]
      have hat : ∀ i, i < w.heap.size → (Go.Sort.grow (Go.Sort.putRow (Value.int .i64) (Go.Sort.ahead w n) g 0 (xs.mergeSort fun x y => decide (x ≤ y)).toArray) os).heap[i]? = (Go.Sort.putRow (Value.int .i64) (Go.Sort.ahead w n) g 0 (xs.mergeSort fun x y => decide (x ≤ y)).toArray).heap[i]? := by
        intro i hi
        simp only [Go.Sort.grow]
        rw [Array.getElem?_append_left (by rw [hsz]; exact hi)]
      refine ⟨_, rfl, rfl, ⟨by simp [hlen], .inr ⟨g, cap, Go.Sort.putCells (Value.int .i64) 0 (xs.mergeSort fun x y => decide (x ≤ y)).toArray cur, rfl, Nat.zero_le _, ?_, hnc, hcm, ?_, ?_⟩⟩, ⟨rfl, rfl, rfl, ?_, ?_⟩⟩
      · rw [hat g hlt]
        simp [Go.Sort.putRow, Go.Sort.mapBlock, Go.Sort.ahead, Array.getElem?_modify, hg, Go.Sort.onCells]
      · simp [Go.Sort.putCells, hcs]
      · apply List.ext_getElem
        · simp [Go.Sort.putCells, hcs, hlen]; omega
        · intro i h1 h2
          simp [hlen] at h2
          simp [Go.Sort.putCells, hlen, h2]
      · simp only [Go.Sort.grow, Array.size_append, hsz]; omega
      · intro i hi hn
        rw [hat i hi]
        simp only [Value.ownBlock, Option.some.injEq] at hn
        simp [Go.Sort.putRow, Go.Sort.mapBlock, Go.Sort.ahead, Array.getElem?_modify, hn]
end Go.Proofs.Ytehjmakiljhjdaa
namespace Go.Proofs.Ytehjmakiljhjdaa
open Go Go.RowKit Go.Proofs.Ytehjmakiljhjdaa.VW
attribute [local irreducible] W Ops OrdA VW.Ord OrdX
/-- The first that p gives, among m numbers from j on. -/
def tryF (p : Nat → Option (List Int)) : Nat → Nat → Option (List Int)
  | 0, _ => none
  | m + 1, j => match p j with
    | some a => some a
    | none => tryF p m (j + 1)
/-- The first assignment that goes on behind l without a cost of more than x. -/
def fitsS (c : List (List Int)) (x : Int) : Nat → List Int → Option (List Int)
  | 0, l => some l
  | k + 1, l => tryF (fun j => if (c.getD l.length []).getD j 0 ≤ x ∧ ¬ (j : Int) ∈ l then fitsS c x k (l ++ [(j : Int)]) else none) c.length 0
def fitR (w w' : World) (r : Value) : Option (List Int) → Prop
  | none => r = .tuple #[.slice none 0 0, .bool false]
  | some a => ∃ v, r = .tuple #[v, .bool true] ∧ SlI w' v a
set_option maxHeartbeats 2000000 in
theorem fits_c {w0 : World} {cv : Value} {c : List (List Int)} {x : Int} (hM : RowsM w0 cv c) (hC : Cst c) : ∀ (k : Nat) (l : List Int) (w : World) (A : Option Addr) (m : Nat), l.length + k = c.length → l.length ≤ m → Below w0.heap.size w0 w → SlI w (.slice A l.length m) l →
    Calls Try.prog 56 #[cv, .int .i64 x, .slice A l.length m] w (Ret fun r w' => Below w.heap.size w w' ∧ fitR w w' r (fitsS c x k l)) := by
  have hn7 := hC.n7
  obtain ⟨Ac, cc, rfl⟩ := hM.sl
  intro k
  induction k with
  | zero =>
    intro l w A m hl hm hb hs
    have hl' : (l.length : Int) = c.length := by omega
    refine calls_W (vs := [_, _, _]) Try.func56 rfl (by kernel_rfl) rfl ?_
    (repeat (first | with_reducible refine W.seq ?_ | with_reducible refine Ops.nil ?_ | with_reducible refine W.region ?_ | refine z_p (kk := ?_) | refine z_l (kk := ?_)))
    refine W.condT rfl (by first | rfl | assumption | (simp only [bnf] <;> omega) | (simp only [*, bnf]; done) | fail) ?_
    (repeat (first | with_reducible refine W.seq ?_ | with_reducible refine Ops.nil ?_ | with_reducible refine W.region ?_ | refine z_p (kk := ?_)))
    exact W.fret rfl ⟨Below.refl _ _, _, rfl, hs⟩
  | succ k ih =>
    intro l w A m hl hm hb hs
    refine calls_W (vs := [_, _, _]) Try.func56 rfl (by kernel_rfl) rfl ?_
    have hrow : row c (l.length : Int) = c.getD l.length [] := by simp [row]
    have hcl := hC.len l.length (by omega)
    rw [← hrow] at hcl
    (repeat (first | with_reducible refine W.seq ?_ | with_reducible refine Ops.nil ?_ | with_reducible refine W.region ?_ | refine z_p (kk := ?_) | refine z_l (kk := ?_)))
    refine W.condF rfl (by first | rfl | assumption | (simp only [bnf] <;> omega) | (simp only [*, bnf]; done) | fail) ?_
    (repeat (first | with_reducible refine W.seq ?_ | with_reducible refine Ops.nil ?_ | with_reducible refine W.region ?_ | refine z_p (kk := ?_) | with_reducible refine W.skip ?_ | with_reducible refine W.block ?_ | refine z_l (kk := ?_) | refine z_r (kk := fun _ _ _ _ => ?_)))
    rename_i Ar mr pr hsr
    have hfit : fitsS c x (k + 1) l = tryF (fun j => if (row c (l.length : Int)).getD j 0 ≤ x ∧ ¬ (j : Int) ∈ l then fitsS c x k (l ++ [(j : Int)]) else none) c.length 0 := by rw [hrow]; rfl
    refine W.loop (fun mm ρ w1 => ∃ (j : Nat), mm = c.length - j ∧ j ≤ c.length ∧ tryF (fun j => if (row c (l.length : Int)).getD j 0 ≤ x ∧ ¬ (j : Int) ∈ l then fitsS c x k (l ++ [(j : Int)]) else none) (c.length - j) j = fitsS c x (k + 1) l ∧ ρ = [(0, .slice Ac c.length cc), (1, .int .i64 x), (2, .slice A l.length m), (22, .slice Ar (row c (l.length : Int)).length mr), (23, .int .i64 (row c (l.length : Int)).length), (24, .int .i64 j)] ∧ Below w.heap.size w w1)
      ⟨_, _, ⟨0, rfl, Nat.zero_le _, hfit.symm, rfl, Below.refl _ _⟩, (by repeat (first | exact trivial | refine And.intro rfl ?_))⟩ ?_
    rintro mm ρ w1 ⟨j, rfl, hj, htr, rfl, hb1⟩
    have hb01 := Below.via hb hb1
    have hs1 := Sl.below hs hb1
    (repeat (first | with_reducible refine W.seq ?_ | with_reducible refine Ops.nil ?_ | with_reducible refine W.region ?_ | refine z_p (kk := ?_)))
    (first | refine W.condD rfl (fun hc => ?_) (fun hc => ?_) | refine W.condE rfl (fun hc => ?_) (fun hc => ?_) | refine W.condN rfl (fun hc => ?_) (fun hc => ?_) | refine W.cond rfl (fun hc => ?_) (fun hc => ?_))
    · have hjl : j < c.length := by omega
      obtain ⟨q, hq⟩ : ∃ q, c.length - j = q + 1 := ⟨c.length - j - 1, by omega⟩
      have hq' : c.length - (j + 1) = q := by omega
      rw [hq, tryF] at htr
      by_cases hle : (row c (l.length : Int)).getD j 0 ≤ x
      · by_cases hmem : (j : Int) ∈ l
        · rw [if_neg (fun h => h.2 hmem)] at htr
          (repeat (first | with_reducible refine W.seq ?_ | with_reducible refine Ops.nil ?_ | with_reducible refine W.region ?_ | refine z_p (kk := ?_) | refine z_y (kk := ?_) | with_reducible refine W.skip ?_ | with_reducible refine W.block ?_ | refine z_I (kk := fun _ => ?_) | refine z_h (kk := ?_)))
          refine Ops.callS rfl rfl rfl rfl rfl (contains_c hs1) ?_
          rw [decide_eq_true hmem]
          (repeat (first | with_reducible refine Ops.nil ?_ | refine z_p (kk := ?_) | refine z_y (kk := ?_)))
          refine W.condF rfl (by first | rfl | assumption | (simp only [bnf] <;> omega) | (simp only [*, bnf]; done) | fail) ?_
          (repeat (first | with_reducible refine Ops.nil ?_ | with_reducible refine W.region ?_ | refine z_p (kk := ?_) | refine z_a (kk := ?_) | with_reducible refine W.skip ?_ | with_reducible refine W.endb ?_))
          exact W.endl ⟨_, _, ⟨⟨j + 1, rfl, by omega, by rw [hq']; exact htr, rfl, hb1⟩, by omega⟩, (by repeat (first | exact trivial | refine And.intro rfl ?_))⟩
        · rw [if_pos ⟨hle, hmem⟩] at htr
          (repeat (first | with_reducible refine W.seq ?_ | with_reducible refine Ops.nil ?_ | with_reducible refine W.region ?_ | refine z_p (kk := ?_) | refine z_y (kk := ?_) | with_reducible refine W.skip ?_ | with_reducible refine W.block ?_ | refine z_I (kk := fun _ => ?_) | refine z_h (kk := ?_)))
          refine Ops.callS rfl rfl rfl rfl rfl (contains_c hs1) ?_
          rw [decide_eq_false hmem]
          (repeat (first | with_reducible refine Ops.nil ?_ | refine z_p (kk := ?_) | refine z_y (kk := ?_)))
          refine W.condT rfl (by first | rfl | assumption | (simp only [bnf] <;> omega) | (simp only [*, bnf]; done) | fail) ?_
          (repeat (first | with_reducible refine W.seq ?_ | with_reducible refine W.region ?_ | refine z_p (kk := ?_) | refine z_l (kk := ?_)))
          refine Ops.sl3 rfl rfl rfl rfl rfl rfl rfl rfl hm ?_
          (repeat (first | refine z_p (kk := ?_)))
          have hs2 : SlI w1 (.slice A l.length l.length) l := by
            obtain ⟨h1, A', c', e, h2⟩ := hs1
            cases e
            exact ⟨h1, A, l.length, rfl, h2⟩
          refine Ops.pushG (enc := Value.int .i64) (u := (j : Int)) rfl rfl rfl rfl rfl rfl rfl rfl rfl rfl rfl rfl (fun _ => rfl) rfl (fun e => ?_) hs2 (by omega) (fun lv' p w2 hO2 => ?_)
          · subst e
            obtain ⟨_, A', c', e, h2⟩ := hs2
            cases e
            rcases Nat.eq_zero_or_pos l.length with h | h
            · exact h
            · obtain ⟨a, ha, _⟩ := h2 h; cases ha
          have hcap : ∃ A' m', lv' = .slice A' (l ++ [(j : Int)]).length m' ∧ (l ++ [(j : Int)]).length ≤ m' := by
            rcases hO2.own.2 with ⟨h1, h2⟩ | ⟨g, cap, cur, h1, _, _, h2, _⟩
            · exact ⟨_, _, by rw [h1, h2], by omega⟩
            · exact ⟨_, _, h1, h2⟩
          obtain ⟨A', m', rfl, hm'⟩ := hcap
          refine Ops.call rfl rfl rfl rfl rfl (ih (l ++ [(j : Int)]) w2 A' m' (by simp; omega) hm' (Below.via hb01 hO2.bel) hO2.sl) (fun r w3 hR => ?_)
          obtain ⟨hb3, hR⟩ := hR
          have hb13 := Below.via hb1 (Below.via hO2.bel hb3)
          cases hf : fitsS c x k (l ++ [(j : Int)]) with
          | none =>
            rw [hf] at hR htr
            have hr : r = .tuple #[.slice none 0 0, .bool false] := hR
            subst hr
            (repeat (first | with_reducible refine W.seq ?_ | with_reducible refine Ops.nil ?_ | with_reducible refine W.region ?_ | refine z_p (kk := ?_)))
            refine W.condF rfl (by first | rfl | assumption | (simp only [bnf] <;> omega) | (simp only [*, bnf]; done) | fail) ?_
            (repeat (first | with_reducible refine Ops.nil ?_ | with_reducible refine W.region ?_ | refine z_p (kk := ?_) | refine z_a (kk := ?_) | with_reducible refine W.skip ?_ | with_reducible refine W.endb ?_))
            exact W.endl ⟨_, _, ⟨⟨j + 1, rfl, by omega, by rw [hq']; exact htr, rfl, hb13⟩, by omega⟩, (by repeat (first | exact trivial | refine And.intro rfl ?_))⟩
          | some a =>
            rw [hf] at hR htr
            obtain ⟨v, rfl, hv⟩ := hR
            (repeat (first | with_reducible refine W.seq ?_ | with_reducible refine Ops.nil ?_ | with_reducible refine W.region ?_ | refine z_p (kk := ?_)))
            refine W.condT rfl (by first | rfl | assumption | (simp only [bnf] <;> omega) | (simp only [*, bnf]; done) | fail) ?_
            (repeat (first | with_reducible refine W.seq ?_ | with_reducible refine Ops.nil ?_ | with_reducible refine W.region ?_ | refine z_p (kk := ?_)))
            exact W.fret rfl ⟨hb13, by rw [← htr]; exact ⟨v, rfl, hv⟩⟩
      · rw [if_neg (fun h => hle h.1)] at htr
        (repeat (first | with_reducible refine W.seq ?_ | with_reducible refine Ops.nil ?_ | with_reducible refine W.region ?_ | refine z_p (kk := ?_) | refine z_n (kk := ?_) | with_reducible refine W.skip ?_ | with_reducible refine W.block ?_ | refine z_I (kk := fun _ => ?_) | refine z_g (kk := ?_)))
        refine W.condF rfl (by first | rfl | assumption | (simp only [bnf] <;> omega) | (simp only [*, bnf]; done) | fail) ?_
        (repeat (first | with_reducible refine Ops.nil ?_ | with_reducible refine W.region ?_ | refine z_p (kk := ?_) | refine z_a (kk := ?_) | with_reducible refine W.skip ?_ | with_reducible refine W.endb ?_))
        exact W.endl ⟨_, _, ⟨⟨j + 1, rfl, by omega, by rw [hq']; exact htr, rfl, hb1⟩, by omega⟩, (by repeat (first | exact trivial | refine And.intro rfl ?_))⟩
    · have hjl : j = c.length := by omega
      subst hjl
      rw [Nat.sub_self, tryF] at htr
      (repeat (first | with_reducible refine W.seq ?_ | with_reducible refine Ops.nil ?_ | with_reducible refine W.region ?_ | refine z_p (kk := ?_) | refine W.exit rfl ?_))
      exact W.fret rfl ⟨hb1, by rw [← htr]; rfl⟩
theorem grow_c {w : World} (i : Int) (h0 : 0 ≤ i) (h1 : i ≤ 1000000) : Calls Try.prog 85 #[.slice none 0 0, .int .i64 i] w (Ret fun r w' => OI 3 (Value.int .i64) w w' r []) := by
  refine calls_W (vs := [_, _]) Try.func85 rfl (by kernel_rfl) rfl ?_
  (repeat (first | with_reducible refine W.seq ?_ | with_reducible refine Ops.nil ?_ | with_reducible refine W.region ?_ | refine z_p (kk := ?_)))
  refine W.condF rfl (by first | rfl | assumption | (simp only [bnf] <;> omega) | (simp only [*, bnf]; done) | fail) ?_
  (repeat (first | with_reducible refine W.seq ?_ | with_reducible refine W.region ?_ | refine z_p (kk := ?_) | with_reducible refine W.skip ?_))
  refine Ops.cap rfl rfl rfl rfl rfl ?_
  (repeat (first | with_reducible refine W.seq ?_ | with_reducible refine Ops.nil ?_ | with_reducible refine W.region ?_ | refine z_p (kk := ?_) | refine z_a (kk := ?_) | refine z_l (kk := ?_)))
  (first | refine W.condD rfl (fun hc => ?_) (fun hc => ?_) | refine W.condE rfl (fun hc => ?_) (fun hc => ?_) | refine W.condN rfl (fun hc => ?_) (fun hc => ?_) | refine W.cond rfl (fun hc => ?_) (fun hc => ?_))
  · (repeat (first | with_reducible refine W.region ?_ | refine z_p (kk := ?_)))
    refine Ops.cap rfl rfl rfl rfl rfl ?_
    refine Ops.slH rfl rfl rfl rfl rfl rfl rfl (by simp) (by simp) ?_
    (repeat (first | refine z_p (kk := ?_)))
    refine Ops.appZ rfl rfl rfl rfl rfl rfl rfl rfl rfl rfl rfl (by omega) (by omega) (fun r c w1 hr hcap hown k1 => ?_)
    (repeat (first | refine z_p (kk := ?_) | refine z_l (kk := ?_)))
    refine Ops.slH rfl rfl rfl rfl rfl rfl rfl (by simp) (by simp) ?_
    (repeat (first | with_reducible refine W.seq ?_ | with_reducible refine Ops.nil ?_ | with_reducible refine W.region ?_ | refine z_p (kk := ?_)))
    refine W.fret rfl ⟨k1.below (Nat.le_refl _) (fun _ _ e => e), hown, fun k hk => ?_⟩
    simp [resV, Value.ownBlock] at hk
    omega
  · (repeat (first | with_reducible refine W.seq ?_ | with_reducible refine Ops.nil ?_ | with_reducible refine W.region ?_ | refine z_p (kk := ?_) | with_reducible refine W.skip ?_))
    exact W.fret rfl (OI.nil (Below.refl _ _))
theorem flat_step {c : List (List Int)} {i : Nat} (h : i < c.length) : (c.take (i + 1)).flatten = (c.take i).flatten ++ row c (i : Int) := by
  rw [List.take_succ_eq_append_getElem h, List.flatten_append]
  simp [row, List.getD_eq_getElem?_getD, h]
theorem flat_len {c : List (List Int)} (hC : Cst c) : ∀ i, i ≤ c.length → (c.take i).flatten.length = i * c.length
  | 0, _ => by simp
  | i + 1, h => by
    have hl := hC.len i (by omega)
    have hrow : row c (i : Int) = c.getD i [] := by simp [row]
    rw [flat_step (by omega), List.length_append, flat_len hC i (by omega), hrow, hl, Nat.succ_mul]
theorem concat_c {w : World} {cv : Value} {c : List (List Int)} (hM : RowsM w cv c) (hC : Cst c) : Calls Try.prog 54 #[cv] w (Ret fun v w' => OI 3 (Value.int .i64) w w' v c.flatten) := by
  have hn7 := hC.n7
  have hbig : ∀ i, i ≤ c.length → i * c.length ≤ 49 := fun i hi => Nat.le_trans (Nat.mul_le_mul hi (Nat.le_refl _)) (Nat.le_trans (Nat.mul_le_mul hn7 hn7) (by decide))
  obtain ⟨Ac, cc, rfl⟩ := hM.sl
  refine calls_W (vs := [_]) Try.func54 rfl (by kernel_rfl) rfl ?_
  (repeat (first | with_reducible refine W.seq ?_ | with_reducible refine Ops.nil ?_ | with_reducible refine W.region ?_ | refine z_p (kk := ?_) | with_reducible refine W.block ?_ | refine z_l (kk := ?_)))
  refine W.loop (fun m ρ w1 => ∃ j : Nat, m = c.length - j ∧ j ≤ c.length ∧ ρ = [(0, .slice Ac c.length cc), (3, .int .i64 ((c.take j).flatten.length : Nat)), (9, .slice Ac c.length cc), (10, .int .i64 c.length), (11, .int .i64 j)] ∧ w1 = w)
    ⟨_, _, ⟨0, rfl, Nat.zero_le _, rfl, rfl⟩, (by repeat (first | exact trivial | refine And.intro rfl ?_))⟩ ?_
  rintro m ρ w1 ⟨j, rfl, hj, rfl, rfl⟩
  have hlj := flat_len hC j hj
  have hbj := hbig j hj
  (repeat (first | with_reducible refine W.seq ?_ | with_reducible refine Ops.nil ?_ | with_reducible refine W.region ?_ | refine z_p (kk := ?_)))
  (first | refine W.condD rfl (fun hc => ?_) (fun hc => ?_) | refine W.condE rfl (fun hc => ?_) (fun hc => ?_) | refine W.condN rfl (fun hc => ?_) (fun hc => ?_) | refine W.cond rfl (fun hc => ?_) (fun hc => ?_))
  · have hjl : j < c.length := by omega
    have hl1 := flat_len hC (j + 1) (by omega)
    rw [flat_step hjl, List.length_append] at hl1
    have hb1 := hbig (j + 1) (by omega)
    (repeat (first | with_reducible refine W.seq ?_ | with_reducible refine Ops.nil ?_ | with_reducible refine W.region ?_ | refine z_p (kk := ?_) | refine z_a (kk := ?_) | with_reducible refine W.skip ?_ | with_reducible refine W.block ?_ | refine z_l (kk := ?_) | refine z_r (kk := fun _ _ _ _ => ?_)))
    refine W.condF rfl (by first | rfl | assumption | (simp only [bnf] <;> omega) | (simp only [*, bnf]; done) | fail) ?_
    (repeat (first | with_reducible refine Ops.nil ?_ | with_reducible refine W.region ?_ | refine z_p (kk := ?_) | refine z_a (kk := ?_) | with_reducible refine W.skip ?_ | with_reducible refine W.endb ?_))
    refine W.endl ⟨_, _, ⟨⟨j + 1, rfl, by omega, rfl, rfl⟩, by omega⟩, ⟨rfl, ?_, rfl, rfl, rfl, trivial⟩⟩
    rw [flat_step hjl, List.length_append]
    rfl
  · have hjl : j = c.length := by omega
    subst hjl
    rw [List.take_length] at hlj ⊢
    (repeat (first | with_reducible refine W.seq ?_ | with_reducible refine W.region ?_ | refine z_p (kk := ?_) | refine W.exit rfl ?_))
    refine Ops.call rfl rfl rfl rfl rfl (grow_c _ (by omega) (by omega)) (fun v w2 hI => ?_)
    (repeat (first | with_reducible refine W.seq ?_ | with_reducible refine Ops.nil ?_ | with_reducible refine W.region ?_ | refine z_p (kk := ?_) | with_reducible refine W.block ?_ | refine z_l (kk := ?_)))
    refine W.loop (fun m ρ w2 => ∃ (j : Nat) (v : Value), m = c.length - j ∧ j ≤ c.length ∧ ρ = [(6, v), (25, .slice Ac c.length cc), (26, .int .i64 c.length), (27, .int .i64 j)] ∧ OI 3 (Value.int .i64) w1 w2 v (c.take j).flatten)
      ⟨_, _, ⟨0, v, rfl, Nat.zero_le _, rfl, hI⟩, (by repeat (first | exact trivial | refine And.intro rfl ?_))⟩ ?_
    rintro m ρ w2 ⟨j, v, rfl, hj, rfl, hI⟩
    have hlj := flat_len hC j hj
    have hb2 := hI.bel
    (repeat (first | with_reducible refine W.seq ?_ | with_reducible refine Ops.nil ?_ | with_reducible refine W.region ?_ | refine z_p (kk := ?_)))
    (first | refine W.condD rfl (fun hc => ?_) (fun hc => ?_) | refine W.condE rfl (fun hc => ?_) (fun hc => ?_) | refine W.condN rfl (fun hc => ?_) (fun hc => ?_) | refine W.cond rfl (fun hc => ?_) (fun hc => ?_))
    · have hjl : j < c.length := by omega
      have hl1 := flat_len hC (j + 1) (by omega)
      rw [flat_step hjl, List.length_append] at hl1
      have hb1 := hbig (j + 1) (by omega)
      (repeat (first | with_reducible refine W.seq ?_ | with_reducible refine Ops.nil ?_ | with_reducible refine W.region ?_ | refine z_p (kk := ?_) | with_reducible refine W.skip ?_ | with_reducible refine W.block ?_ | refine z_r (kk := fun _ _ _ _ => ?_)))
      rename_i Ar mr pr hsr
      refine Ops.appO (enc := Value.int .i64) (w0 := w1) 0 rfl rfl rfl rfl rfl rfl rfl rfl rfl rfl hI hsr hb2 (fun _ => rfl) (by omega) (fun v' w3 hO _ _ => ?_)
      rw [← flat_step hjl] at hO
      (repeat (first | with_reducible refine Ops.nil ?_ | with_reducible refine W.region ?_ | refine z_p (kk := ?_) | refine z_a (kk := ?_) | with_reducible refine W.endb ?_))
      exact W.endl ⟨_, _, ⟨⟨j + 1, v', rfl, by omega, rfl, hO⟩, by omega⟩, (by repeat (first | exact trivial | refine And.intro rfl ?_))⟩
    · have hjl : j = c.length := by omega
      subst hjl
      rw [List.take_length] at hI
      (repeat (first | with_reducible refine W.seq ?_ | with_reducible refine Ops.nil ?_ | with_reducible refine W.region ?_ | refine z_p (kk := ?_) | refine W.exit rfl ?_))
      exact W.fret rfl hI
end Go.Proofs.Ytehjmakiljhjdaa
/- Plain: assignments whose costs are small; Hall's theorem. -/
namespace Go.Proofs.Ytehjmakiljhjdaa
open Go Go.RowKit Go.Proofs.Ytehjmakiljhjdaa.VW
theorem tryF_some {p : Nat → Option (List Int)} {a : List Int} : ∀ m j, tryF p m j = some a → ∃ q, j ≤ q ∧ q < j + m ∧ p q = some a ∧ ∀ q', j ≤ q' → q' < q → p q' = none
  | 0, j, h => by simp [tryF] at h
  | m + 1, j, h => by
    rw [tryF] at h
    cases hp : p j with
    | some b =>
      rw [hp] at h
      exact ⟨j, Nat.le_refl _, by omega, by rw [hp]; exact h, fun q' h1 h2 => by omega⟩
    | none =>
      rw [hp] at h
      obtain ⟨q, h1, h2, h3, h4⟩ := tryF_some m (j + 1) h
      refine ⟨q, by omega, by omega, h3, fun q' h5 h6 => ?_⟩
      by_cases e : q' = j
      · rw [e]; exact hp
      · exact h4 q' (by omega) h6
theorem tryF_none {p : Nat → Option (List Int)} : ∀ m j, tryF p m j = none → ∀ q, j ≤ q → q < j + m → p q = none
  | 0, j, h, q, h1, h2 => by omega
  | m + 1, j, h, q, h1, h2 => by
    rw [tryF] at h
    cases hp : p j with
    | some b => rw [hp] at h; cases h
    | none =>
      rw [hp] at h
      by_cases e : q = j
      · rw [e]; exact hp
      · exact tryF_none m (j + 1) h q (by omega) (by omega)
/-- What button i costs in a. -/
def costA (c : List (List Int)) (a : List Int) (i : Nat) : Int := (c.getD i []).getD (a.getD i 0).toNat 0
def OkA (c : List (List Int)) (x : Int) (a : List Int) : Prop := Asg a c.length ∧ ∀ i, i < c.length → costA c a i ≤ x
/-- The begin of an assignment. -/
def Pre (c : List (List Int)) (x : Int) (l : List Int) : Prop := ∀ i, i < l.length → (0 ≤ l.getD i 0 ∧ l.getD i 0 < c.length) ∧ (∀ k, k < i → l.getD k 0 ≠ l.getD i 0) ∧ costA c l i ≤ x
theorem appI_getD {xs : List Int} {z : Int} {j : Nat} (h : j < xs.length) : (xs ++ [z]).getD j 0 = xs.getD j 0 := appV_getD h
theorem appI_last {xs : List Int} {z : Int} : (xs ++ [z]).getD xs.length 0 = z := appV_last rfl
theorem Pre.snoc {c : List (List Int)} {x : Int} {l : List Int} {j : Nat} (h : Pre c x l) (hj : j < c.length) (hm : ¬ (j : Int) ∈ l) (hx : (c.getD l.length []).getD j 0 ≤ x) : Pre c x (l ++ [(j : Int)]) := by
  intro i hi
  rw [List.length_append, List.length_singleton] at hi
  by_cases e : i = l.length
  · subst e
    rw [appI_last]
    refine ⟨by omega, fun k hk => ?_, ?_⟩
    · rw [appI_getD hk]
      exact fun e => hm (by rw [← e]; exact getD_memI hk)
    · unfold costA
      rw [appI_last]
      exact hx
  · have h' := h i (by omega)
    rw [appI_getD (by omega)]
    refine ⟨h'.1, fun k hk => ?_, ?_⟩
    · rw [appI_getD (by omega)]
      exact h'.2.1 k hk
    · unfold costA
      rw [appI_getD (by omega)]
      exact h'.2.2
theorem fits_sound {c : List (List Int)} {x : Int} {a : List Int} : ∀ k l, l.length + k = c.length → Pre c x l → fitsS c x k l = some a → OkA c x a ∧ a.take l.length = l
  | 0, l, hl, hp, h => by
    rw [fitsS] at h
    have e := Option.some.inj h
    subst e
    have hl' : l.length = c.length := by omega
    exact ⟨⟨⟨hl', fun i hi => ⟨(hp i hi).1, (hp i hi).2.1⟩⟩, fun i hi => (hp i (by omega)).2.2⟩, List.take_length⟩
  | k + 1, l, hl, hp, h => by
    rw [fitsS] at h
    obtain ⟨q, h1, h2, h3, h4⟩ := tryF_some _ _ h
    split at h3
    · rename_i hc
      have := fits_sound k (l ++ [(q : Int)]) (by simp; omega) (hp.snoc (by omega) hc.2 hc.1) h3
      refine ⟨this.1, ?_⟩
      have h5 := congrArg (List.take l.length) this.2
      rw [List.take_take, List.take_append_of_le_length (Nat.le_refl _), List.take_length] at h5
      have e1 : min l.length (l ++ [(q : Int)]).length = l.length := by simp
      rw [e1] at h5
      exact h5
    · cases h3
theorem take_succI {a : List Int} {i : Nat} (h : i < a.length) : a.take (i + 1) = a.take i ++ [a.getD i 0] := by
  rw [List.take_succ_eq_append_getElem h]; simp [List.getD_eq_getElem?_getD, h]
theorem Asg.not_mem {a : List Int} {n i : Nat} (h : Asg a n) (hi : i < a.length) : ¬ a.getD i 0 ∈ a.take i := fun hm => by
  obtain ⟨k, hk, e⟩ := (take_mem (by omega)).1 hm
  exact (h.2 i hi).2 k hk e
theorem fits_none {c : List (List Int)} {x : Int} : ∀ k l, l.length + k = c.length → fitsS c x k l = none → ∀ a, OkA c x a → a.take l.length ≠ l
  | 0, l, hl, h => by rw [fitsS] at h; cases h
  | k + 1, l, hl, h => fun a ha e => by
    rw [fitsS] at h
    have hlen : a.length = c.length := ha.1.1
    have hil : l.length < a.length := by omega
    have hr := (ha.1.2 l.length hil).1
    have hq := tryF_none _ _ h (a.getD l.length 0).toNat (by omega) (by omega)
    have hcast : ((a.getD l.length 0).toNat : Int) = a.getD l.length 0 := by omega
    rw [if_pos ⟨ha.2 l.length (by omega), by rw [hcast, ← e]; simp only [List.length_take]; rw [show min l.length a.length = l.length by omega]; exact ha.1.not_mem hil⟩] at hq
    refine fits_none k _ (by simp; omega) hq a ha ?_
    rw [hcast, List.length_append, List.length_singleton, take_succI hil, e]
theorem fits_none0 {c : List (List Int)} {x : Int} (h : fitsS c x c.length [] = none) (a : List Int) (ha : OkA c x a) : False := fits_none c.length [] (by simp) h a ha (by simp)
theorem fits_some0 {c : List (List Int)} {x : Int} {a : List Int} (h : fitsS c x c.length [] = some a) : OkA c x a := (fits_sound c.length [] (by simp) (fun i hi => by simp at hi) h).1
/-! ### Hall -/
def nbr (R : Nat → Nat → Bool) (A : List Nat) (S : Nat → Bool) (h : Nat) : Bool := A.any fun a => S a && R a h
def Hall (R : Nat → Nat → Bool) (A H : List Nat) : Prop := ∀ S : Nat → Bool, (A.filter S).length ≤ (H.filter (nbr R A S)).length
theorem filter_split (H : List Nat) (p q : Nat → Bool) : (H.filter p).length = (H.filter fun h => p h && q h).length + (H.filter fun h => p h && !q h).length := by
  induction H with
  | nil => rfl
  | cons x r ih =>
    simp only [List.filter_cons]
    cases p x <;> cases q x <;> simp <;> omega
theorem filter_mono (H : List Nat) {p q : Nat → Bool} (h : ∀ x, x ∈ H → p x = true → q x = true) : (H.filter p).length ≤ (H.filter q).length := by
  induction H with
  | nil => simp
  | cons x r ih =>
    have ih := ih (fun y hy => h y (List.mem_cons_of_mem _ hy))
    simp only [List.filter_cons]
    have hx := h x (by simp)
    cases hp : p x <;> cases hq : q x <;> simp [hp, hq] at hx ⊢ <;> omega
theorem filter_ne (H : List Nat) (hn : H.Nodup) (p : Nat → Bool) (h : Nat) : (H.filter p).length ≤ ((H.filter fun x => x != h).filter p).length + 1 := by
  induction H with
  | nil => simp
  | cons x r ih =>
    rw [List.nodup_cons] at hn
    by_cases e : x = h
    · subst e
      have : (r.filter fun y => y != x) = r := by
        rw [List.filter_eq_self]
        intro y hy
        simp only [bne_iff_ne]
        exact fun e => hn.1 (e ▸ hy)
      simp only [List.filter_cons, bne_self_eq_false, Bool.false_eq_true, if_false, this]
      split <;> simp
    · have ih := ih hn.2
      have hb : (x != h) = true := by simpa using e
      simp only [List.filter_cons, hb, if_true]
      split
      · simp only [List.length_cons]; omega
      · exact ih
theorem nbr_iff {R : Nat → Nat → Bool} {A : List Nat} {S : Nat → Bool} {h : Nat} : nbr R A S h = true ↔ ∃ a, a ∈ A ∧ S a = true ∧ R a h = true := by
  simp [nbr, List.any_eq_true]
theorem hall {R : Nat → Nat → Bool} : ∀ (m : Nat) (A H : List Nat), A.length ≤ m → A.Nodup → H.Nodup → Hall R A H → ∃ f : Nat → Nat, (∀ a, a ∈ A → f a ∈ H ∧ R a (f a) = true) ∧ ∀ a b, a ∈ A → b ∈ A → f a = f b → a = b
  | _, [], H, _, _, _, _ => ⟨fun a => a, fun a ha => by simp at ha, fun a b ha => by simp at ha⟩
  | 0, a :: A, H, hl, _, _, _ => by simp at hl
  | m + 1, a :: A, H, hl, hA, hH, hh => by
    by_cases hcrit : ∃ S : Nat → Bool, 0 < ((a :: A).filter S).length ∧ ((a :: A).filter S).length < (a :: A).length ∧ (H.filter (nbr R (a :: A) S)).length ≤ ((a :: A).filter S).length
    · obtain ⟨S, h1, h2, h3⟩ := hcrit
      have e0 : (a :: A).filter (fun _ => true) = a :: A := List.filter_eq_self.2 (fun _ _ => rfl)
      have hsum : (a :: A).length = ((a :: A).filter S).length + ((a :: A).filter fun x => !S x).length := by
        have := filter_split (a :: A) (fun _ => true) S
        rw [e0] at this
        exact this
      have H1 : Hall R ((a :: A).filter S) (H.filter (nbr R (a :: A) S)) := by
        intro T
        have h4 := hh (fun x => S x && T x)
        have e1 : ((a :: A).filter S).filter T = (a :: A).filter fun x => S x && T x := by rw [List.filter_filter]; congr 1; funext x; cases S x <;> cases T x <;> rfl
        rw [e1]
        refine Nat.le_trans h4 ?_
        rw [List.filter_filter]
        refine filter_mono H (fun x hx hn => ?_)
        obtain ⟨b, hb, hS, hR⟩ := nbr_iff.1 hn
        simp only [Bool.and_eq_true] at hS ⊢
        exact ⟨nbr_iff.2 ⟨b, List.mem_filter.2 ⟨hb, hS.1⟩, hS.2, hR⟩, nbr_iff.2 ⟨b, hb, hS.1, hR⟩⟩
      have H2 : Hall R ((a :: A).filter fun x => !S x) (H.filter fun x => !nbr R (a :: A) S x) := by
        intro T
        have h4 := hh (fun x => S x || T x)
        have e1 : ((a :: A).filter fun x => !S x).filter T = (a :: A).filter fun x => (S x || T x) && !S x := by rw [List.filter_filter]; congr 1; funext x; cases S x <;> cases T x <;> rfl
        have h5 := filter_split (a :: A) (fun x => S x || T x) S
        have e2 : ((a :: A).filter fun x => (S x || T x) && S x) = (a :: A).filter S := by congr 1; funext x; cases S x <;> cases T x <;> rfl
        rw [e2] at h5
        have h6 := filter_split H (nbr R (a :: A) fun x => S x || T x) (nbr R (a :: A) S)
        have h7 : (H.filter fun h => nbr R (a :: A) (fun x => S x || T x) h && nbr R (a :: A) S h).length ≤ (H.filter (nbr R (a :: A) S)).length := filter_mono H (fun x _ h => by simp only [Bool.and_eq_true] at h; exact h.2)
        have h8 : (H.filter fun h => nbr R (a :: A) (fun x => S x || T x) h && !nbr R (a :: A) S h).length ≤ ((H.filter fun x => !nbr R (a :: A) S x).filter (nbr R ((a :: A).filter fun x => !S x) T)).length := by
          rw [List.filter_filter]
          refine filter_mono H (fun x _ h => ?_)
          simp only [Bool.and_eq_true, Bool.not_eq_true'] at h ⊢
          refine ⟨?_, h.2⟩
          obtain ⟨b, hb, hS, hR⟩ := nbr_iff.1 h.1
          have hSb : S b = false := by
            cases hs : S b with
            | false => rfl
            | true => have := nbr_iff.2 ⟨b, hb, hs, hR⟩; rw [h.2] at this; cases this
          refine nbr_iff.2 ⟨b, List.mem_filter.2 ⟨hb, by simp [hSb]⟩, ?_, hR⟩
          simpa [hSb] using hS
        rw [e1]
        omega
      have l1 : ((a :: A).filter S).length ≤ m := by omega
      have l2 : ((a :: A).filter fun x => !S x).length ≤ m := by omega
      obtain ⟨f1, g1, g2⟩ := hall m _ _ l1 (hA.filter _) (hH.filter _) H1
      obtain ⟨f2, g3, g4⟩ := hall m _ _ l2 (hA.filter _) (hH.filter _) H2
      refine ⟨fun b => if S b then f1 b else f2 b, fun b hb => ?_, fun b d hb hd e => ?_⟩
      · cases hs : S b with
        | true =>
          have := g1 b (List.mem_filter.2 ⟨hb, hs⟩)
          simp only [hs, if_true]
          exact ⟨(List.mem_filter.1 this.1).1, this.2⟩
        | false =>
          have := g3 b (List.mem_filter.2 ⟨hb, by simp [hs]⟩)
          simp only [hs, Bool.false_eq_true, if_false]
          exact ⟨(List.mem_filter.1 this.1).1, this.2⟩
      · cases hs : S b <;> cases ht : S d <;> simp only [hs, ht, Bool.false_eq_true, if_false, if_true] at e
        · exact g4 b d (List.mem_filter.2 ⟨hb, by simp [hs]⟩) (List.mem_filter.2 ⟨hd, by simp [ht]⟩) e
        · have q1 := (List.mem_filter.1 (g3 b (List.mem_filter.2 ⟨hb, by simp [hs]⟩)).1).2
          have q2 := (List.mem_filter.1 (g1 d (List.mem_filter.2 ⟨hd, ht⟩)).1).2
          rw [e, q2] at q1; simp at q1
        · have q1 := (List.mem_filter.1 (g3 d (List.mem_filter.2 ⟨hd, by simp [ht]⟩)).1).2
          have q2 := (List.mem_filter.1 (g1 b (List.mem_filter.2 ⟨hb, hs⟩)).1).2
          rw [← e, q2] at q1; simp at q1
        · exact g2 b d (List.mem_filter.2 ⟨hb, hs⟩) (List.mem_filter.2 ⟨hd, ht⟩) e
    · have hnc : ∀ S : Nat → Bool, 0 < ((a :: A).filter S).length → ((a :: A).filter S).length < (a :: A).length → ((a :: A).filter S).length < (H.filter (nbr R (a :: A) S)).length := fun S h1 h2 => by
        rcases Nat.lt_or_ge ((a :: A).filter S).length (H.filter (nbr R (a :: A) S)).length with h | h
        · exact h
        · exact absurd ⟨S, h1, h2, h⟩ hcrit
      have hA' := List.nodup_cons.1 hA
      have hone := hh (fun x => x == a)
      have hpos : 0 < (H.filter (nbr R (a :: A) fun x => x == a)).length := by
        refine Nat.lt_of_lt_of_le ?_ hone
        simp
      obtain ⟨h, hmem⟩ := List.exists_mem_of_length_pos hpos
      obtain ⟨hhH, hhN⟩ := List.mem_filter.1 hmem
      have hR : R a h = true := by
        obtain ⟨b, hb, hS, hR⟩ := nbr_iff.1 hhN
        have : b = a := by simpa using hS
        rw [← this]; exact hR
      have H1 : Hall R A (H.filter fun x => x != h) := by
        intro T
        rcases Nat.eq_zero_or_pos (A.filter T).length with h0 | h0
        · omega
        have e1 : (a :: A).filter (fun x => T x && x != a) = A.filter T := by
          simp only [List.filter_cons, bne_self_eq_false, Bool.and_false, Bool.false_eq_true, if_false]
          refine List.filter_congr (fun x hx => ?_)
          have : (x != a) = true := by
            simp only [bne_iff_ne]
            exact fun e => hA'.1 (e ▸ hx)
          rw [this, Bool.and_true]
        have h4 := hnc (fun x => T x && x != a) (by rw [e1]; exact h0) (by rw [e1]; have := List.length_filter_le T A; simp; omega)
        rw [e1] at h4
        have h5 := filter_ne H hH (nbr R (a :: A) fun x => T x && x != a) h
        have h6 : ((H.filter fun x => x != h).filter (nbr R (a :: A) fun x => T x && x != a)).length ≤ ((H.filter fun x => x != h).filter (nbr R A T)).length := filter_mono _ (fun x _ hn => by
          obtain ⟨b, hb, hS, hR⟩ := nbr_iff.1 hn
          simp only [Bool.and_eq_true, bne_iff_ne] at hS
          rcases List.mem_cons.1 hb with e | hb
          · exact absurd e hS.2
          · exact nbr_iff.2 ⟨b, hb, hS.1, hR⟩)
        omega
      obtain ⟨f, g1, g2⟩ := hall m A (H.filter fun x => x != h) (by simp at hl; omega) hA'.2 (hH.filter _) H1
      refine ⟨fun b => if b = a then h else f b, fun b hb => ?_, fun b d hb hd e => ?_⟩
      · by_cases e : b = a
        · subst e; simp only [if_true]; exact ⟨hhH, hR⟩
        · simp only [e, if_false]
          have := g1 b ((List.mem_cons.1 hb).resolve_left e)
          exact ⟨(List.mem_filter.1 this.1).1, this.2⟩
      · by_cases e1 : b = a <;> by_cases e2 : d = a <;> simp only [e1, e2, if_true, if_false] at e
        · rw [e1, e2]
        · have := (List.mem_filter.1 (g1 d ((List.mem_cons.1 hd).resolve_left e2)).1).2
          simp [← e] at this
        · have := (List.mem_filter.1 (g1 b ((List.mem_cons.1 hb).resolve_left e1)).1).2
          simp [e] at this
        · exact g2 b d ((List.mem_cons.1 hb).resolve_left e1) ((List.mem_cons.1 hd).resolve_left e2) e
end Go.Proofs.Ytehjmakiljhjdaa
/- Plain: blocks. -/
namespace Go.Proofs.Ytehjmakiljhjdaa
open Go Go.RowKit Go.Proofs.Ytehjmakiljhjdaa.VW
theorem nodup_sub {α : Type} [BEq α] [LawfulBEq α] : ∀ (l1 l2 : List α), l1.Nodup → (∀ x, x ∈ l1 → x ∈ l2) → l1.length ≤ l2.length
  | [], _, _, _ => by simp
  | a :: l, l2, hn, h => by
    rw [List.nodup_cons] at hn
    have hm := h a (by simp)
    have ih := nodup_sub l (l2.erase a) hn.2 (fun x hx => by
      have hne : x ≠ a := fun e => hn.1 (e ▸ hx)
      exact (List.mem_erase_of_ne hne).2 (h x (by simp [hx])))
    rw [List.length_erase_of_mem hm] at ih
    have := List.length_pos_of_mem hm
    simp only [List.length_cons]
    omega
theorem addL_nodup {ks : List Int} {x : Int} (h : ks.Nodup) : (addL ks x).Nodup := by
  unfold addL
  split
  · exact h
  · rename_i hc
    rw [List.nodup_append]
    refine ⟨h, by simp, fun a ha b hb => ?_⟩
    simp only [List.mem_singleton] at hb
    subst hb
    exact fun e => hc (by rw [← e]; simpa using ha)
theorem addL_mem {ks : List Int} {x y : Int} : y ∈ addL ks x ↔ y ∈ ks ∨ y = x := by
  unfold addL
  split
  · rename_i hc
    have : x ∈ ks := by simpa using hc
    exact ⟨.inl, fun h => h.elim id fun e => e ▸ this⟩
  · simp
theorem rowH_spec {r : List Int} {w : Int} {ks : List Int} (hk : ks.Nodup) : ∀ m, (rowH r w ks m).Nodup ∧ ∀ y, y ∈ rowH r w ks m ↔ y ∈ ks ∨ ∃ j, j < m ∧ y = (j : Int) ∧ r.getD j 0 ≤ w
  | 0 => ⟨hk, fun y => by simp [rowH]⟩
  | m + 1 => by
    obtain ⟨h1, h2⟩ := rowH_spec (r := r) (w := w) hk m
    simp only [rowH]
    split
    · rename_i hle
      refine ⟨addL_nodup h1, fun y => ?_⟩
      rw [addL_mem, h2]
      constructor
      · rintro ((h | ⟨j, hj, e, hw⟩) | e)
        · exact .inl h
        · exact .inr ⟨j, by omega, e, hw⟩
        · exact .inr ⟨m, by omega, e, hle⟩
      · rintro (h | ⟨j, hj, e, hw⟩)
        · exact .inl (.inl h)
        · by_cases e2 : j = m
          · subst e2; exact .inr e
          · exact .inl (.inr ⟨j, by omega, e, hw⟩)
    · rename_i hle
      refine ⟨h1, fun y => ?_⟩
      rw [h2]
      constructor
      · rintro (h | ⟨j, hj, e, hw⟩)
        · exact .inl h
        · exact .inr ⟨j, by omega, e, hw⟩
      · rintro (h | ⟨j, hj, e, hw⟩)
        · exact .inl h
        · by_cases e2 : j = m
          · subst e2; exact absurd hw hle
          · exact .inr ⟨j, by omega, e, hw⟩
theorem holesH_spec {c : List (List Int)} {w : Int} {l : List Int} : ∀ k, (holesH c w l k).Nodup ∧ ∀ y, y ∈ holesH c w l k ↔ ∃ j, j < c.length ∧ y = (j : Int) ∧ ∃ q, q < k ∧ (c.getD (l.getD q 0).toNat []).getD j 0 ≤ w
  | 0 => ⟨by simp [holesH], fun y => by simp [holesH]⟩
  | k + 1 => by
    obtain ⟨h1, h2⟩ := holesH_spec (c := c) (w := w) (l := l) k
    obtain ⟨h3, h4⟩ := rowH_spec (r := c.getD (l.getD k 0).toNat []) (w := w) h1 c.length
    refine ⟨h3, fun y => ?_⟩
    rw [holesH, h4, h2]
    constructor
    · rintro (⟨j, hj, e, q, hq, hw⟩ | ⟨j, hj, e, hw⟩)
      · exact ⟨j, hj, e, q, by omega, hw⟩
      · exact ⟨j, hj, e, k, by omega, hw⟩
    · rintro ⟨j, hj, e, q, hq, hw⟩
      by_cases e2 : q = k
      · subst e2; exact .inr ⟨j, hj, e, hw⟩
      · exact .inl ⟨j, hj, e, q, by omega, hw⟩
def someB (c : List (List Int)) (w : Int) (l : List Int) (j : Nat) : Bool := l.any fun i => decide ((c.getD i.toNat []).getD j 0 ≤ w)
theorem someB_iff {c : List (List Int)} {w : Int} {l : List Int} {j : Nat} : someB c w l j = true ↔ ∃ q, q < l.length ∧ (c.getD (l.getD q 0).toNat []).getD j 0 ≤ w := by
  simp only [someB, List.any_eq_true, decide_eq_true_eq]
  constructor
  · rintro ⟨i, hi, h⟩
    obtain ⟨q, hq, e⟩ := mem_getDI hi
    exact ⟨q, hq, by rw [e]; exact h⟩
  · rintro ⟨q, hq, h⟩
    exact ⟨_, getD_memI hq, h⟩
theorem map_nodup {l : List Nat} (h : l.Nodup) : (l.map fun j : Nat => (j : Int)).Nodup := by
  induction l with
  | nil => simp
  | cons a l ih =>
    rw [List.nodup_cons] at h
    rw [List.map_cons, List.nodup_cons]
    refine ⟨fun hm => ?_, ih h.2⟩
    obtain ⟨b, hb, e⟩ := List.mem_map.1 hm
    have : b = a := by omega
    exact h.1 (this ▸ hb)
/-- The holes of a list of buttons, counted. -/
theorem holesH_len {c : List (List Int)} {w : Int} {l : List Int} : (holesH c w l l.length).length = ((List.range c.length).filter (someB c w l)).length := by
  obtain ⟨h1, h2⟩ := holesH_spec (c := c) (w := w) (l := l) l.length
  have e : ((List.range c.length).filter (someB c w l)).length = (((List.range c.length).filter (someB c w l)).map fun j : Nat => (j : Int)).length := by simp
  rw [e]
  apply Nat.le_antisymm
  · refine nodup_sub _ _ h1 (fun y hy => ?_)
    obtain ⟨j, hj, e, hq⟩ := (h2 y).1 hy
    exact List.mem_map.2 ⟨j, List.mem_filter.2 ⟨List.mem_range.2 hj, someB_iff.2 hq⟩, e.symm⟩
  · refine nodup_sub _ _ (map_nodup (List.nodup_range.filter _)) (fun y hy => ?_)
    obtain ⟨j, hj, e⟩ := List.mem_map.1 hy
    obtain ⟨hj1, hj2⟩ := List.mem_filter.1 hj
    exact (h2 y).2 ⟨j, List.mem_range.1 hj1, e.symm, someB_iff.1 hj2⟩
/-- The buttons whose bits are set. -/
def setL (s : Nat) : Nat → List Int
  | 0 => []
  | i + 1 => if s.testBit i then setL s i ++ [(i : Int)] else setL s i
theorem setL_spec {s : Nat} : ∀ m, (setL s m).length = ((List.range m).filter s.testBit).length ∧ (∀ y, y ∈ setL s m ↔ ∃ i, i < m ∧ y = (i : Int) ∧ s.testBit i = true) ∧ ∀ k, 0 < k → k < (setL s m).length → (setL s m).getD (k - 1) 0 < (setL s m).getD k 0
  | 0 => ⟨by simp [setL], fun y => by simp [setL], fun k h1 h2 => by simp [setL] at h2⟩
  | m + 1 => by
    obtain ⟨h1, h2, h3⟩ := setL_spec (s := s) m
    simp only [setL, List.range_succ, List.filter_append, List.filter_cons, List.filter_nil]
    cases hb : s.testBit m with
    | true =>
      simp only [if_true, List.length_append, List.length_singleton]
      refine ⟨by rw [h1], fun y => ?_, fun k hk1 hk2 => ?_⟩
      · rw [List.mem_append, List.mem_singleton, h2]
        constructor
        · rintro (⟨i, hi, e, ht⟩ | e)
          · exact ⟨i, by omega, e, ht⟩
          · exact ⟨m, by omega, e, hb⟩
        · rintro ⟨i, hi, e, ht⟩
          by_cases e2 : i = m
          · subst e2; exact .inr e
          · exact .inl ⟨i, by omega, e, ht⟩
      · by_cases e : k = (setL s m).length
        · subst e
          rw [appI_getD (by omega), appI_last]
          obtain ⟨i, hi, e, _⟩ := (h2 _).1 (getD_memI (c := setL s m) (i := (setL s m).length - 1) (by omega))
          omega
        · rw [appI_getD (by omega), appI_getD (by omega)]
          exact h3 k hk1 (by omega)
    | false =>
      simp only [Bool.false_eq_true, if_false, List.append_nil]
      refine ⟨h1, fun y => ?_, h3⟩
      rw [h2]
      constructor
      · rintro ⟨i, hi, e, ht⟩; exact ⟨i, by omega, e, ht⟩
      · rintro ⟨i, hi, e, ht⟩
        by_cases e2 : i = m
        · subst e2; rw [hb] at ht; cases ht
        · exact ⟨i, by omega, e, ht⟩
theorem setL_inOrd {s n : Nat} : inOrd n (setL s n) := fun k hk => by
  obtain ⟨h1, h2, h3⟩ := setL_spec (s := s) n
  refine ⟨?_, fun h0 => h3 k h0 hk⟩
  obtain ⟨i, hi, e, _⟩ := (h2 _).1 (getD_memI hk)
  omega
def maskS (S : Nat → Bool) : Nat → Nat
  | 0 => 0
  | n + 1 => if S n then maskS S n ||| 2 ^ n else maskS S n
theorem maskS_bit {S : Nat → Bool} (i : Nat) : ∀ n, (maskS S n).testBit i = (decide (i < n) && S i)
  | 0 => by simp [maskS]
  | n + 1 => by
    have ih := maskS_bit (S := S) i n
    simp only [maskS]
    cases hs : S n with
    | true =>
      simp only [if_true, Nat.testBit_or, Nat.testBit_two_pow, ih]
      by_cases e : i = n
      · subst e; simp [hs]
      · have e1 : decide (n = i) = false := decide_eq_false (fun h => e h.symm)
        have e2 : decide (i < n + 1) = decide (i < n) := by rw [decide_eq_decide]; omega
        rw [e1, e2, Bool.or_false]
    | false =>
      simp only [Bool.false_eq_true, if_false, ih]
      by_cases e : i = n
      · subst e; simp [hs]
      · have e2 : decide (i < n + 1) = decide (i < n) := by rw [decide_eq_decide]; omega
        rw [e2]
theorem maskS_lt {S : Nat → Bool} : ∀ n, maskS S n < 2 ^ n
  | 0 => by simp [maskS]
  | n + 1 => by
    have ih := maskS_lt (S := S) n
    have h1 : 2 ^ n < 2 ^ (n + 1) := Nat.pow_lt_pow_right (by omega) (by omega)
    simp only [maskS]
    split
    · exact Nat.or_lt_two_pow (by omega) h1
    · omega
/-- No assignment stays within x: there is a block. -/
theorem block_ex {c : List (List Int)} {x : Int} (h : ∀ a, ¬ OkA c x a) : ∃ s, 1 ≤ s ∧ s < 2 ^ c.length ∧ BlkS c x (setL s c.length) := by
  by_cases hh : Hall (fun i j => decide ((c.getD i []).getD j 0 ≤ x)) (List.range c.length) (List.range c.length)
  · exfalso
    obtain ⟨f, h1, h2⟩ := hall c.length _ _ (by simp) List.nodup_range List.nodup_range hh
    have hget : ∀ i, i < c.length → ((List.range c.length).map fun i => (f i : Int)).getD i 0 = f i := fun i hi => by simp [List.getD_eq_getElem?_getD, hi]
    have h1' : ∀ i, i < c.length → f i < c.length ∧ (c.getD i []).getD (f i) 0 ≤ x := fun i hi => by
      have := h1 i (List.mem_range.2 hi)
      exact ⟨List.mem_range.1 this.1, by simpa using this.2⟩
    refine h ((List.range c.length).map fun i => (f i : Int)) ⟨⟨by simp, fun i hi => ?_⟩, fun i hi => ?_⟩
    · simp only [List.length_map, List.length_range] at hi
      rw [hget i hi]
      have := h1' i hi
      refine ⟨by omega, fun k hk e => ?_⟩
      rw [hget k (by omega)] at e
      have := h2 k i (List.mem_range.2 (by omega)) (List.mem_range.2 hi) (by omega)
      omega
    · unfold costA
      rw [hget i hi, Int.toNat_natCast]
      exact (h1' i hi).2
  · obtain ⟨S, hS⟩ : ∃ S : Nat → Bool, ((List.range c.length).filter (nbr (fun i j => decide ((c.getD i []).getD j 0 ≤ x)) (List.range c.length) S)).length < ((List.range c.length).filter S).length := by
      refine Classical.byContradiction fun hn => hh fun S => ?_
      rcases Nat.lt_or_ge ((List.range c.length).filter (nbr (fun i j => decide ((c.getD i []).getD j 0 ≤ x)) (List.range c.length) S)).length ((List.range c.length).filter S).length with h | h
      · exact absurd ⟨S, h⟩ hn
      · exact h
    have hbit : ∀ i, i ∈ List.range c.length → (maskS S c.length).testBit i = S i := fun i hi => by rw [maskS_bit, decide_eq_true (List.mem_range.1 hi), Bool.true_and]
    obtain ⟨g1, g2, _⟩ := setL_spec (s := maskS S c.length) c.length
    have hlen : (setL (maskS S c.length) c.length).length = ((List.range c.length).filter S).length := by rw [g1, List.filter_congr hbit]
    refine ⟨maskS S c.length, ?_, maskS_lt _, setL_inOrd, ?_⟩
    · rcases Nat.eq_zero_or_pos (maskS S c.length) with e | e
      · exfalso
        have hp : 0 < ((List.range c.length).filter S).length := by omega
        obtain ⟨i, hi⟩ := List.exists_mem_of_length_pos hp
        obtain ⟨hi1, hi2⟩ := List.mem_filter.1 hi
        have := hbit i hi1
        rw [e, hi2] at this
        simp at this
      · exact e
    · rw [holesH_len, hlen]
      refine Nat.lt_of_le_of_lt (filter_mono _ (fun j _ hj => ?_)) hS
      obtain ⟨q, hq, hw⟩ := someB_iff.1 hj
      obtain ⟨i, hi, e, ht⟩ := (g2 _).1 (getD_memI hq)
      rw [e, Int.toNat_natCast] at hw
      exact nbr_iff.2 ⟨i, List.mem_range.2 hi, by rw [← hbit i (List.mem_range.2 hi)]; exact ht, by simpa using hw⟩
/-- A greatest one. -/
theorem max_ex {g : Nat → Int} : ∀ n, 0 < n → ∃ i, i < n ∧ ∀ k, k < n → g k ≤ g i
  | 0, h => by omega
  | 1, _ => ⟨0, by omega, fun k hk => by have : k = 0 := by omega
                                         subst this; exact Int.le_refl _⟩
  | n + 2, _ => by
    obtain ⟨i, hi, h⟩ := max_ex (g := g) (n + 1) (by omega)
    by_cases e : g i ≤ g (n + 1)
    · refine ⟨n + 1, by omega, fun k hk => ?_⟩
      by_cases e2 : k = n + 1
      · subst e2; exact Int.le_refl _
      · exact Int.le_trans (h k (by omega)) e
    · refine ⟨i, by omega, fun k hk => ?_⟩
      by_cases e2 : k = n + 1
      · subst e2; omega
      · exact h k (by omega)
theorem ent_mem {c : List (List Int)} (hC : Cst c) {i j : Nat} (hi : i < c.length) (hj : j < c.length) : (c.getD i []).getD j 0 ∈ c.flatten := by
  have hl := hC.len i hi
  exact List.mem_flatten.2 ⟨_, getD_memR hi, getD_memI (by omega)⟩
theorem cost_mem {c : List (List Int)} (hC : Cst c) {a : List Int} (ha : Asg a c.length) {i : Nat} (hi : i < c.length) : costA c a i ∈ c.flatten := by
  have := (ha.2 i (by have := ha.1; omega)).1
  exact ent_mem hC hi (by omega)
/-- Nothing that is smaller fits: no assignment stays below. -/
theorem none_below {c : List (List Int)} (hC : Cst c) {x : Int} (h : ∀ y, y ∈ c.flatten → y < x → fitsS c y c.length [] = none) (a : List Int) : ¬ OkA c (x - 1) a := fun ha => by
  have hn := hC.n1
  obtain ⟨i, hi, hm⟩ := max_ex (g := costA c a) c.length (by omega)
  have h1 := ha.2 i hi
  exact fits_none0 (h _ (cost_mem hC ha.1 hi) (by omega)) a ⟨ha.1, hm⟩
theorem idn_asg (n : Nat) : Asg ((List.range n).map fun i : Nat => (i : Int)) n := by
  have hget : ∀ i, i < n → ((List.range n).map fun i : Nat => (i : Int)).getD i 0 = i := fun i hi => by simp [List.getD_eq_getElem?_getD, hi]
  refine ⟨by simp, fun i hi => ?_⟩
  simp only [List.length_map, List.length_range] at hi
  rw [hget i hi]
  exact ⟨by omega, fun k hk => by rw [hget k (by omega)]; omega⟩
theorem some_fits {c : List (List Int)} (hC : Cst c) : ∃ y, y ∈ c.flatten ∧ fitsS c y c.length [] ≠ none := by
  have hn := hC.n1
  have ha := idn_asg c.length
  obtain ⟨i, hi, hm⟩ := max_ex (g := costA c ((List.range c.length).map fun i : Nat => (i : Int))) c.length (by omega)
  exact ⟨_, cost_mem hC ha hi, fun h => fits_none0 h _ ⟨ha, hm⟩⟩
end Go.Proofs.Ytehjmakiljhjdaa
