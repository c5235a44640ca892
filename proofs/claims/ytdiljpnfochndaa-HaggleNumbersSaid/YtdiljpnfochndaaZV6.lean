/- A part of the walk: what this seat's statements share. -/
import Derived.Test.YtdiljpnfochndaaZV5
import Derived.OrdersHeld
set_option linter.unusedSectionVars false
set_option linter.unusedVariables false
set_option linter.unusedSimpArgs false
/- Drawn regions in which something is made or called: an order of the prover's own. -/
namespace Go.Proofs.Ytdiljpnfochndaa.VW
open Go Go.RowKit
/-- Whatever order is picked from here on; S tells what stands, by what has come up. -/
def wpAnyI (P : Program) (md : Region.Mode) (ops : Array Oper) (Q : Exit → Act → World → Prop) (S : Array Bool → World → Prop) : Nat → Array Bool → Act → World → Prop
  | 0, listed, a, w => Region.ready md ops listed = [] ∧ Q .normal a w
  | fuel + 1, listed, a, w =>
    (Region.ready md ops listed = [] → Q .normal a w) ∧
    ∀ i ∈ Region.ready md ops listed, wpOp P ops Q i (fun a' w' => S (listed.setIfInBounds i true) w' ∧ wpAnyI P md ops Q S fuel (listed.setIfInBounds i true) a' w') a w
section
variable {P : Program} {ops : Array Oper} {Q : Exit → Act → World → Prop} {md : Region.Mode} {S : Array Bool → World → Prop}
theorem wpAny_of_I : ∀ (fuel : Nat) (listed : Array Bool) (a : Act) (w : World), wpAnyI P md ops Q S fuel listed a w → wpAny P md ops Q fuel listed a w
  | 0, _, _, _, h => h
  | fuel + 1, _, _, _, h => ⟨h.1, fun i hi => wpOp_mono (fun a' w' h' => wpAny_of_I fuel _ a' w' h'.2) (h.2 i hi)⟩
def Cl (md : Region.Mode) (ops : Array Oper) (L : Array Bool) : Prop := ∀ j oj, ops[j]? = some oj → L.getD j false = true → ∀ e ∈ oj.after, Region.binds md e = true → L.getD e.on false = true
theorem Cl.set {L : Array Bool} {j : Nat} (h : Cl md ops L) (hj : j ∈ Region.ready md ops L) : Cl md ops (L.setIfInBounds j true) := by
  intro i oi hi hl e he hb
  have hup : ∀ q, L.getD q false = true → (L.setIfInBounds j true).getD q false = true := fun q hq => getD_set_true hq
  by_cases hij : j = i
  · subst hij
    obtain ⟨_, oj, hoj, hall⟩ := mem_ready.1 hj
    rw [hoj] at hi
    simp only [Option.some.injEq] at hi
    subst hi
    exact hup _ (hall e he hb)
  · rw [getD_set_ne false hij] at hl
    exact hup _ (h i oi hi hl e he hb)
theorem Cl.start (n : Nat) : Cl md ops (Array.replicate n false) := by
  intro i oi hi hl
  rw [Array.getD_eq_getD_getElem?, Array.getElem?_replicate] at hl
  split at hl <;> simp at hl
theorem wpAnyI_first {i : Nat} {oi : Oper} {v : Value} (hi : ops[i]? = some oi) (hsel : ∀ (j : Nat) (o : Oper) cs b, ops[j]? = some o → o.op ≠ .select cs b)
    (hQ : ∀ c a w, Q (.panic c) (a.put oi.dst v) w → Q (.panic c) a w) (hinv : ∀ L w, S (L.setIfInBounds i true) w ↔ S L w) {G : World → Prop} (hG : ∀ (L : Array Bool) w, Cl md ops L → L.getD i true = false → S L w → G w) :
    ∀ (fuel : Nat) (listed : Array Bool) (a : Act) (w : World),
      (∀ j oj, ops[j]? = some oj → j ≠ i → listed.getD j true = false → (∀ e ∈ oj.after, Region.binds md e = true → e.on ≠ i) → oi.apart ops oj = true) →
      i ∈ Region.ready md ops listed → Cl md ops listed → YieldsIf P ops G oi v a → S listed w →
      wpAnyI P md ops Q S fuel (listed.setIfInBounds i true) (a.put oi.dst v) w → wpAnyI P md ops Q S (fuel + 1) listed a w := by
  intro fuel
  induction fuel with
  | zero =>
    intro listed a w _ hr hcl hy hS H
    refine ⟨fun h => (by rw [h] at hr; cases hr), fun j hj => ?_⟩
    by_cases hji : j = i
    · subst hji; exact hy.wpOp hi (hG listed w hcl (mem_ready.1 hr).1 hS) ⟨(hinv _ _).2 hS, H⟩
    · have := ready_mono hj hji
      rw [H.1] at this
      cases this
  | succ fuel ih =>
    intro listed a w hfree hr hcl hy hS H
    refine ⟨fun h => (by rw [h] at hr; cases hr), fun j hj => ?_⟩
    by_cases hji : j = i
    · subst hji; exact hy.wpOp hi (hG listed w hcl (mem_ready.1 hr).1 hS) ⟨(hinv _ _).2 hS, H⟩
    · have h1 := H.2 j (ready_mono hj hji)
      obtain ⟨hjun, oj, hoj, hall⟩ := mem_ready.1 hj
      have hnot : ∀ e ∈ oj.after, Region.binds md e = true → e.on ≠ i := fun e he hb heq => by
        have h1 := hall e he hb
        have h0 := (mem_ready.1 hr).1
        rw [heq] at h1
        rcases Nat.lt_or_ge i listed.size with h' | h'
        · simp [h'] at h0 h1; rw [h0] at h1; cases h1
        · simp [Array.getElem?_eq_none h'] at h1
      have h2 := wpOp_putIf hoj (hfree j oj hoj hji hjun hnot) (fun cs b => hsel i oi cs b hi) (fun cs b => hsel j oj cs b hoj) hQ hy h1
      have hfree' : ∀ k ok, ops[k]? = some ok → k ≠ i → (listed.setIfInBounds j true).getD k true = false →
          (∀ e ∈ ok.after, Region.binds md e = true → e.on ≠ i) → oi.apart ops ok = true := fun k ok hk hki hun hno => by
        refine hfree k ok hk hki ?_ hno
        by_cases hjk : j = k
        · subst hjk; exact hjun
        · rw [getD_set_ne true hjk] at hun; exact hun
      refine wpOp_mono (fun a' w' h3 => ?_) h2
      have hS3 : S (listed.setIfInBounds j true) w' := by
        have := h3.2.1
        rw [Array.setIfInBounds_comm _ _ (Ne.symm hji)] at this
        exact (hinv _ _).1 this
      refine ⟨hS3, ih (listed.setIfInBounds j true) a' w' hfree' (ready_mono hr (Ne.symm hji)) (hcl.set hj) h3.1 hS3 ?_⟩
      rw [Array.setIfInBounds_comm _ _ hji]
      exact h3.2.2
theorem wpAnyI_take {i : Nat} {oi : Oper} {v : Value} {fuel : Nat} {listed : Array Bool} {a : Act} {w : World} (hi : ops[i]? = some oi)
    (hs : Region.noSelect ops = true) (hf : Region.free md ops listed i = true) (hr : (Region.ready md ops listed).contains i = true)
    (hQ : ∀ c a w, Q (.panic c) (a.put oi.dst v) w → Q (.panic c) a w) (hinv : ∀ L w, S (L.setIfInBounds i true) w ↔ S L w) {G : World → Prop} (hG : ∀ (L : Array Bool) w, Cl md ops L → L.getD i true = false → S L w → G w) (hcl : Cl md ops listed) (hy : YieldsIf P ops G oi v a) (hS : S listed w)
    (h : wpAnyI P md ops Q S fuel (listed.setIfInBounds i true) (a.put oi.dst v) w) : wpAnyI P md ops Q S (fuel + 1) listed a w :=
  wpAnyI_first hi (Region.noSelect_spec hs) hQ hinv hG fuel listed a w (Region.free_spec hi hf) (by simpa using hr) hcl hy hS h
theorem wpAnyI_all {rs : List Nat} {fuel : Nat} {listed : Array Bool} {a : Act} {w : World} (hr : Region.ready md ops listed = rs) (hne : rs ≠ [])
    (h : ∀ i ∈ rs, wpOp P ops Q i (fun a' w' => S (listed.setIfInBounds i true) w' ∧ wpAnyI P md ops Q S fuel (listed.setIfInBounds i true) a' w') a w) : wpAnyI P md ops Q S (fuel + 1) listed a w :=
  ⟨fun h0 => absurd (hr ▸ h0) hne, hr ▸ h⟩
theorem wpAnyI_done {listed : Array Bool} {a : Act} {w : World} (hr : Region.ready md ops listed = []) (h : Q .normal a w) : ∀ fuel, wpAnyI P md ops Q S fuel listed a w
  | 0 => ⟨hr, h⟩
  | _ + 1 => ⟨fun _ => h, by rw [hr]; simp⟩
theorem wp_region_I {id : Nat} {a : Act} {w : World} (hm : P.follows .mixedOrders = true)
    (h : wpAnyI P .any ops Q S ops.size (Array.replicate ops.size false) a { w with drawn := w.drawn + 1 }) : (Code.region id ops true).wp P Q a w :=
  wp_region_any hm (wpAny_of_I _ _ _ _ h)
end
def EV (P : Program) (n : Nat) (ρ : E) (w : World) (o : Oper) (v : Value) : Prop := ∀ a, Rep n a ρ → (execOp a.eval o).run P w = .ok (.value v) w
/-- An order: 0: the operation comes alone; 1: it may be taken first, it asks no memory; 2: it may be taken first, it reads memory that stands till s has come. -/
def waitsB (ops : Array Oper) (s i : Nat) : Bool := match ops[s]? with
  | some o => o.after.any fun e => Region.binds .any e && e.on == i
  | none => true
def chk (ops : Array Oper) (s : Nat) : List (Nat × Nat) → List Bool → Bool
  | [], L => (Region.ready .any ops L.toArray).isEmpty
  | (i, 0) :: r, L => (Region.ready .any ops L.toArray == [i]) && chk ops s r (L.set i true)
  | (i, 1) :: r, L => Region.free .any ops L.toArray i && (Region.ready .any ops L.toArray).contains i && (i != s) && chk ops s r (L.set i true)
  | (i, _ + 2) :: r, L => Region.free .any ops L.toArray i && (Region.ready .any ops L.toArray).contains i && (i != s) && waitsB ops s i && chk ops s r (L.set i true)
def SF (all : Array Oper) (s : Nat) (F : World → Prop) (L : Array Bool) (w : World) : Prop := ((all[s]?).isSome && L.getD s false) = false → F w
section
variable {P : Program} [hT : Tab P] {n : Nat} {ds : List Deferred} {Φ : Post} {k : List It} {ρ : E} {w : World} {all : Array Oper} {l : List Oper} {md : Option (List Oper)}
omit hT in
theorem EV.pu {o : Oper} {v : Value} (h : pureV ρ o.op = some v) : EV P n ρ w o v := fun _ hr => pureV_ok h hr
omit hT in
theorem EV.ar {o : Oper} {x : Int} (h : arV ρ o.op = some x) (hb : -9223372036854775808 ≤ x ∧ x ≤ 9223372036854775807) : EV P n ρ w o (.int .i64 x) := fun _ hr => arV_ok h hb hr
theorem EV.len {o : Oper} {t e m c : Nat} {x : Operand} {A : Option Addr} (ho : o.op = .call { callee := .builtin .len, args := #[x], argTypes := #[t] })
    (ht : tyD P t = some (.slice e)) (hx : ev ρ x = some (.slice A m c)) : EV P n ρ w o (.int .i64 m) := by
  intro a hr
  have hu := td_slice (tyD_ok ht)
  simp [execOp, ho, resolve, hr.ev hx, invoke, builtin, Builtin.len_, run_und hu, goInt]
theorem EV.idx {o : Oper} {t e sz m c : Nat} {x y : Operand} {A : Addr} {i : Int} (ho : o.op = .indexAddr t x y)
    (ht : tyD P t = some (.slice e)) (hs : tyS P e = some sz) (hx : ev ρ x = some (.slice (some A) m c)) (hy : ev ρ y = some (.int .i64 i)) (h0 : 0 ≤ i) (h1 : i < m) : EV P n ρ w o (.pointer (some (A.add (i.toNat * sz)))) := by
  intro a hr
  have hu := td_slice (tyD_ok ht)
  simp [execOp, ho, Instr.indexAt, asIntOf, hr.ev hx, hr.ev hy, run_und hu, run_sizeOf hs, h0, h1]
theorem EV.fld {o : Oper} {t i off sz : Nat} {x : Operand} {p : Addr} (ho : o.op = .fieldAddr t x i) (ht : fieldOff P t i = some (off, sz + 1)) (hx : ev ρ x = some (.pointer (some p))) : EV P n ρ w o (.pointer (some (p.add off))) := by
  intro a hr
  obtain ⟨gs, f, hu, hf, h1, h2⟩ := fieldOff_ok ht
  cases hi : P.info? f.type with
  | none => rw [hi] at h2; simp at h2
  | some j =>
    rw [hi] at h2
    simp at h2
    simp [execOp, ho, Instr.fieldAt, Instr.sureAddr, hr.ev hx, run_und hu, hf, fieldPlace, sizeOf, typeInfo, hi, h2, h1]
theorem EV.ld {o : Oper} {t : Nat} {x : Operand} {p : Addr} {v : Value} (ho : o.op = .load t x) (ht : tyAgg P t = some false) (hx : ev ρ x = some (.pointer (some p))) (hc : w.cell? p = some v) : EV P n ρ w o v := by
  intro a hr
  simp [execOp, ho, Instr.loadAt, Instr.sureAddr, hr.ev hx, loadVar, run_isAgg ht, load, Sem.run, hc]
def Ord (P : Program) (n : Nat) (ds : List Deferred) (all : Array Oper) (k : List It) (Φ : Post) (s : Nat) (F : World → Prop) (π : List (Nat × Nat)) (L : List Bool) (ρ : E) (w : World) : Prop :=
  chk all s π L = true → Region.noSelect all = true → (all.toList.all fun o => dOk n o.dst) = true → Cl .any all L.toArray → SF all s F L.toArray w → ∀ a, Rep n a ρ → a.defers = ds → wpAnyI P .any all (lift n ds (Qof P n ds Φ k)) (SF all s F) π.length L.toArray a w
variable {s : Nat} {F : World → Prop} {π : List (Nat × Nat)} {L : List Bool}
omit hT in
theorem Ord.nil (h : W P n ds k Φ ρ w) : Ord P n ds all k Φ s F [] L ρ w := fun hc _ _ _ _ a hr hd => wpAnyI_done (by simpa [chk] using hc) ⟨ρ, hr, hd, h⟩ _
omit hT in
theorem SF.inv {i : Nat} (h : i ≠ s) (L : Array Bool) (w : World) : SF all s F (L.setIfInBounds i true) w ↔ SF all s F L w := by
  unfold SF
  rw [getD_set_ne false h]
omit hT in
theorem Ord.take_ {i d : Nat} {o : Oper} {v : Value} {G : World → Prop} (ho : all[i]? = some o) (hd : o.dst = some d) (hg : o.guard = none) (hΦ : ∀ c ρ w, ¬ Φ (.panic c) ρ w) (his : i ≠ s) (hf : Region.free .any all L.toArray i = true) (hr : (Region.ready .any all L.toArray).contains i = true)
    (hG : ∀ (L : Array Bool) w, Cl .any all L → L.getD i true = false → SF all s F L w → G w) (hev : ∀ w', G w' → EV P n ρ w' o v)
    (hs : Region.noSelect all = true) (hdo : (all.toList.all fun o => dOk n o.dst) = true) (hcl : Cl .any all L.toArray) (hS : SF all s F L.toArray w) {a : Act} (har : Rep n a ρ) (hds : a.defers = ds) {m : Nat}
    (h : ∀ a, Rep n a ((d, v) :: ρ) → a.defers = ds → Cl .any all (L.set i true).toArray → SF all s F (L.set i true).toArray w → wpAnyI P .any all (lift n ds (Qof P n ds Φ k)) (SF all s F) m (L.set i true).toArray a w) : wpAnyI P .any all (lift n ds (Qof P n ds Φ k)) (SF all s F) (m + 1) L.toArray a w := by
  have hdn : dOk n o.dst = true := by
    rw [List.all_eq_true] at hdo
    exact hdo o (by rw [← Array.getElem?_toList] at ho; exact List.mem_of_getElem? ho)
  have hpan : ∀ (k : List It) c ρ w, ¬ Qof P n ds Φ k (.panic c) ρ w := by
    intro k
    induction k with
    | nil => exact hΦ
    | cons x r ih => cases x <;> exact ih
  refine wpAnyI_take ho hs hf hr (fun c a w hq => by obtain ⟨ρ', _, _, hq⟩ := hq; exact absurd hq (hpan k c ρ' w)) (SF.inv his) hG hcl (v := v) (.inl ⟨by simp [Region.wanted, hg], fun w' hw' => hev w' hw' a har⟩) hS ?_
  have := h (a.put o.dst v) (by have := har.put hdn v; rw [hd] at this ⊢; exact this) (by rw [hd]; exact hds) (by rw [← List.setIfInBounds_toArray]; exact hcl.set (by simpa using hr)) (by rw [← List.setIfInBounds_toArray]; exact (SF.inv his _ _).2 hS)
  rw [List.setIfInBounds_toArray]
  exact this
omit hT in
theorem Ord.take {i d : Nat} {o : Oper} {v : Value} (ho : all[i]? = some o) (hd : o.dst = some d) (hg : o.guard = none) (hΦ : ∀ c ρ w, ¬ Φ (.panic c) ρ w) (hev : ∀ w', EV P n ρ w' o v)
    (h : Ord P n ds all k Φ s F π (L.set i true) ((d, v) :: ρ) w) : Ord P n ds all k Φ s F ((i, 1) :: π) L ρ w := by
  intro hc hs hdo hcl hS a hr hds
  simp only [chk, Bool.and_eq_true, bne_iff_ne] at hc
  exact Ord.take_ (G := fun _ => True) ho hd hg hΦ hc.1.2 hc.1.1.1 hc.1.1.2 (fun _ _ _ _ _ => trivial) (fun w' _ => hev w') hs hdo hcl hS hr hds (fun a hr hd hcl hS => h hc.2 hs hdo hcl hS a hr hd)
omit hT in
theorem Ord.read {i d : Nat} {o : Oper} {v : Value} (ho : all[i]? = some o) (hd : o.dst = some d) (hg : o.guard = none) (hΦ : ∀ c ρ w, ¬ Φ (.panic c) ρ w) (hev : ∀ w', F w' → EV P n ρ w' o v)
    (h : Ord P n ds all k Φ s F π (L.set i true) ((d, v) :: ρ) w) : Ord P n ds all k Φ s F ((i, 2) :: π) L ρ w := by
  intro hc hs hdo hcl hS a hr hds
  simp only [chk, Bool.and_eq_true, bne_iff_ne] at hc
  refine Ord.take_ (G := F) ho hd hg hΦ hc.1.1.2 hc.1.1.1.1 hc.1.1.1.2 (fun L w hcl hLi hSF => hSF ?_) hev hs hdo hcl hS hr hds (fun a hr hd hcl hS => h hc.2 hs hdo hcl hS a hr hd)
  cases hos : all[s]? with
  | none => rfl
  | some os =>
    cases hb : L.getD s false with
    | false => rfl
    | true =>
      have hw := hc.1.2
      unfold waitsB at hw
      rw [hos] at hw
      simp only [Array.any_eq_true', Bool.and_eq_true, beq_iff_eq] at hw
      obtain ⟨e, he, hb1, hb2⟩ := hw
      have := hcl s os hos hb e he hb1
      rw [hb2] at this
      rw [Array.getD_eq_getD_getElem?] at this hLi
      cases hx : L[i]? with
      | none => rw [hx] at this; simp at this
      | some b => rw [hx] at this hLi; simp at this hLi; rw [this] at hLi; cases hLi
omit hT in
theorem Ord.eff {i : Nat} {o : Oper} (ho : all[i]? = some o)
    (h : Ops none P n ds all (.lp (fun ρ1 w1 => SF all s F (L.set i true).toArray w1 ∧ Ord P n ds all k Φ s F π (L.set i true) ρ1 w1) :: k) Φ [o] ρ w) : Ord P n ds all k Φ s F ((i, 0) :: π) L ρ w := by
  intro hc hs hdo hcl hS a hr hds
  simp only [chk, Bool.and_eq_true, beq_iff_eq] at hc
  have hdn : dOk n o.dst = true := by
    rw [List.all_eq_true] at hdo
    exact hdo o (by rw [← Array.getElem?_toList] at ho; exact List.mem_of_getElem? ho)
  have h' : wpList P all (lift n ds (Qof P n ds Φ (.lp (fun ρ1 w1 => SF all s F (L.set i true).toArray w1 ∧ Ord P n ds all k Φ s F π (L.set i true) ρ1 w1) :: k))) [o] a w := h (by simp [hdn]) a hr hds
  have hcl' : Cl .any all (L.set i true).toArray := by rw [← List.setIfInBounds_toArray]; exact hcl.set (by rw [hc.1]; simp)
  refine wpAnyI_all hc.1 (by simp) fun j hj => ?_
  simp only [List.mem_singleton] at hj
  subst hj
  have hK : ∀ a' w', wpList P all (lift n ds (Qof P n ds Φ (.lp (fun ρ1 w1 => SF all s F (L.set j true).toArray w1 ∧ Ord P n ds all k Φ s F π (L.set j true) ρ1 w1) :: k))) [] a' w' → SF all s F (L.toArray.setIfInBounds j true) w' ∧ wpAnyI P .any all (lift n ds (Qof P n ds Φ k)) (SF all s F) π.length (L.toArray.setIfInBounds j true) a' w' := by
    rintro a' w' ⟨ρ1, hr1, hd1, hS1, hO⟩
    rw [List.setIfInBounds_toArray]
    exact ⟨hS1, hO hc.2 hs hdo hcl' hS1 a' hr1 hd1⟩
  have hq : ∀ c a w, lift n ds (Qof P n ds Φ (.lp (fun ρ1 w1 => SF all s F (L.set j true).toArray w1 ∧ Ord P n ds all k Φ s F π (L.set j true) ρ1 w1) :: k)) (.panic c) a w → lift n ds (Qof P n ds Φ k) (.panic c) a w := fun _ _ _ h => h
  unfold wpList at h'
  unfold wpOp
  simp only [ho]
  split
  · rename_i hw
    rw [if_pos hw] at h'
    rcases h' with h' | ⟨h1, a', w', h2⟩
    · left
      unfold Oper.wp at h' ⊢
      generalize (execOp a.eval o).run P w = r at *
      cases r with
      | ok nx w' =>
        cases nx <;> simp only [Oper.upon] at h' ⊢
        case value v => exact hK _ _ h'
        case skip => exact hK _ _ h'
        case defer d => exact hK _ _ h'
        case enter f args =>
          refine h'.mono fun e w'' he => ?_
          cases e with
          | returned v => exact hK _ _ he
          | panicked ch => exact hq _ _ _ he
          | outgrown => obtain ⟨a, w, ho⟩ := he; exact ⟨a, w, ho⟩
        case row r args => exact h'.mono fun v w'' hv => hK _ _ hv
      | halt x w' =>
        cases x <;> simp only [Oper.upon] at h' ⊢
        exact hq _ _ _ h'
    · exact .inr ⟨h1, a', w', h2⟩
  · rename_i hw
    rw [if_neg hw] at h'
    exact hK _ _ h'
omit hT in
/-- The region, in the order π; F stands till operation s has come. -/
theorem W.ord {id : Nat} {ops : Array Oper} (s : Nat) (F : World → Prop) (π : List (Nat × Nat)) (hm : P.follows .mixedOrders = true) (hs : Region.noSelect ops = true) (hlen : π.length = ops.size) (hc : chk ops s π (List.replicate π.length false) = true)
    (h : ∀ w', Kp (fun _ => False) w w' → w'.heap = w.heap → F w' ∧ Ord P n ds ops k Φ s F π (List.replicate π.length false) ρ w') : W P n ds (.code (.region id ops true) :: k) Φ ρ w := by
  intro hi a hr hd
  obtain ⟨hF, hO⟩ := h _ (kp_drew w) rfl
  refine wp_region_I (S := SF ops s F) hm ?_
  have := hO hc hs (by simpa [inB] using hi) (by rw [List.toArray_replicate]; exact Cl.start _) (fun _ => hF) a hr hd
  rw [← hlen]
  rw [List.toArray_replicate] at this
  exact this
/-- max and min of two ints. -/
theorem Ops.max {o : Oper} {d : Nat} {x y : Operand} {ts : Array TypeId} {a b : Int} (ho : o.op = .call { callee := .builtin .max, args := #[x, y], argTypes := ts }) (hd : o.dst = some d) (hg : o.guard = none)
    (hx : ev ρ x = some (.int .i64 a)) (hy : ev ρ y = some (.int .i64 b)) (hk : Ops md P n ds all k Φ l ((d, .int .i64 (Max.max a b)) :: ρ) w) : Ops md P n ds all k Φ (o :: l) ρ w := by
  refine Ops.valS hd hg (fun c hr => ?_) hk
  have e : (if b > a then b else a) = Max.max a b := by simp only [Int.max_def]; split <;> split <;> omega
  simp [execOp, ho, resolve, hr.ev hx, hr.ev hy, invoke, builtin, Builtin.max_, Builtin.max2, ← e]
theorem Ops.min {o : Oper} {d : Nat} {x y : Operand} {ts : Array TypeId} {a b : Int} (ho : o.op = .call { callee := .builtin .min, args := #[x, y], argTypes := ts }) (hd : o.dst = some d) (hg : o.guard = none)
    (hx : ev ρ x = some (.int .i64 a)) (hy : ev ρ y = some (.int .i64 b)) (hk : Ops md P n ds all k Φ l ((d, .int .i64 (Min.min a b)) :: ρ) w) : Ops md P n ds all k Φ (o :: l) ρ w := by
  refine Ops.valS hd hg (fun c hr => ?_) hk
  have e : (if b < a then b else a) = Min.min a b := by simp only [Int.min_def]; split <;> split <;> omega
  simp [execOp, ho, resolve, hr.ev hx, hr.ev hy, invoke, builtin, Builtin.min_, Builtin.min2, ← e]
/-- s = append(s, x): a slice of the call's own grows by one element of one cell. -/
theorem Ops.push {o1 o2 : Oper} {d1 d2 t e by' nn : Nat} {x y : Operand} {u lv z : Value} {xs : List Value}
    (h1 : o1.op = .buildSlice t 1 #[(0, x)]) (hd1 : o1.dst = some d1) (hg1 : o1.guard = none) (h2 : o2.op = .call { callee := .builtin .append, args := #[y, .tmp d1], argTypes := #[t, t] }) (hd2 : o2.dst = some d2) (hg2 : o2.guard = none)
    (ht : tyD P t = some (.slice e)) (hs : tyS P e = some 1) (hb : tyB P e = some (by' + 1)) (hz : tyZ P e = some z) (hzs : z.cells.size = 1) (hx : ev ρ x = some u) (hy : ∀ p, ev ((d1, p) :: ρ) y = some lv) (hu : u.oneCell' = true)
    (hown : w.ownsRow 0 e 1 lv nn xs) (hbytes : (nn + 1) * (by' + 1) ≤ 140737488355328)
    (hk : ∀ lv' p w', w'.ownsRow 0 e 1 lv' (nn + 1) (xs ++ [u]) → Kp (fun i => lv.ownBlock = some i) w w' → (∀ i, lv'.ownBlock = some i → lv.ownBlock = some i ∨ w.heap.size ≤ i) → Ops none P n ds all k Φ l ((d2, lv') :: (d1, p) :: ρ) w') : Ops none P n ds all k Φ (o1 :: o2 :: l) ρ w := by
  refine Ops.bs1 h1 hd1 hg1 ht hs hz hzs hx hu (fun w1 r hM => ?_)
  have hone := own_one hM
  refine Ops.app (sz := 0) (news := [u]) (m := 1) (A := ⟨r, 0, none⟩) (c := 1) h2 hd2 hg2 ht hs hb hz hzs (hy _) (ev_top _ _ _) (own_kp hown hM.kp (fun _ _ e => e)) rfl (hone.cells (g := r) rfl) (by simp [hu]) hbytes (fun v' w' ho hk' hn => hk v' _ w' ho ?_ ?_)
  · exact (hM.kp.trans hk').mono (fun i _ e => by rcases e with e | e; exact e.elim; exact e)
  · intro i hi
    rcases hn i hi with h | h
    · exact .inl h
    · right; have := hM.size; omega
end
end Go.Proofs.Ytdiljpnfochndaa.VW
