/- A part of the walk: what this seat's statements share. -/
import Derived.Test.YtcmjlmnfdncajaaGreatDoorZG1
import Derived.OrdersHeld
import Derived.Scope
import Derived.Laws.Entries
set_option linter.unusedVariables false
set_option linter.unusedSimpArgs false
set_option linter.unusedSectionVars false
/- Drawn regions in which something is made or called: an order of the prover's own. -/
namespace Go.Proofs.YtcmjlmnfdncajaaGreatDoor.VW
open Go Go.RowKit
/-- Whatever order is picked from here on; S tells what stands, by what has come up. -/
def wpAnyI (P : Program) (md : Region.Mode) (ops : Array Oper) (Q : Exit → Act → World → Prop) (S : Array Bool → World → Prop) : Nat → Array Bool → Act → World → Prop
  | 0, listed, a, w => Region.ready md ops listed = [] ∧ Q .normal a w
  | fuel + 1, listed, a, w =>
    (Region.ready md ops listed = [] → Q .normal a w) ∧
    ∀ i ∈ Region.ready md ops listed, wpOp P ops Q i (fun a' w' => S (listed.setIfInBounds i true) w' ∧ wpAnyI P md ops Q S fuel (listed.setIfInBounds i true) a' w') a w
section
variable {P : Program} {ops : Array Oper} {Q : Exit → Act → World → Prop} {md : Region.Mode} {S : Array Bool → World → Prop}
theorem wpAny_of_I : ∀ (fuel : Nat) (listed : Array Bool) (a : Act) (w : World), wpAnyI P md ops Q S fuel listed a w → wpAny P md ops Q fuel listed a w
  | 0, _, _, _, h => h
  | fuel + 1, _, _, _, h => ⟨h.1, fun i hi => wpOp_mono (fun a' w' h' => wpAny_of_I fuel _ a' w' h'.2) (h.2 i hi)⟩
def Cl (md : Region.Mode) (ops : Array Oper) (L : Array Bool) : Prop := ∀ j oj, ops[j]? = some oj → L.getD j false = true → ∀ e ∈ oj.after, Region.binds md e = true → L.getD e.on false = true
theorem Cl.set {L : Array Bool} {j : Nat} (h : Cl md ops L) (hj : j ∈ Region.ready md ops L) : Cl md ops (L.setIfInBounds j true) := by
  intro i oi hi hl e he hb
  have hup : ∀ q, L.getD q false = true → (L.setIfInBounds j true).getD q false = true := fun q hq => getD_set_true hq
  by_cases hij : j = i
  · subst hij
    obtain ⟨_, oj, hoj, hall⟩ := mem_ready.1 hj
    rw [hoj] at hi
    simp only [Option.some.injEq] at hi
    subst hi
    exact hup _ (hall e he hb)
  · rw [getD_set_ne false hij] at hl
    exact hup _ (h i oi hi hl e he hb)
theorem Cl.start (n : Nat) : Cl md ops (Array.replicate n false) := by
  intro i oi hi hl
  rw [Array.getD_eq_getD_getElem?, Array.getElem?_replicate] at hl
  split at hl <;> simp at hl
theorem wpAnyI_first {i : Nat} {oi : Oper} {v : Value} (hi : ops[i]? = some oi) (hsel : ∀ (j : Nat) (o : Oper) cs b, ops[j]? = some o → o.op ≠ .select cs b)
    (hQ : ∀ c a w, Q (.panic c) (a.put oi.dst v) w → Q (.panic c) a w) (hinv : ∀ L w, S (L.setIfInBounds i true) w ↔ S L w) {G : World → Prop} (hG : ∀ (L : Array Bool) w, Cl md ops L → L.getD i true = false → S L w → G w) :
    ∀ (fuel : Nat) (listed : Array Bool) (a : Act) (w : World),
      (∀ j oj, ops[j]? = some oj → j ≠ i → listed.getD j true = false → (∀ e ∈ oj.after, Region.binds md e = true → e.on ≠ i) → oi.apart ops oj = true) →
      i ∈ Region.ready md ops listed → Cl md ops listed → YieldsIf P ops G oi v a → S listed w →
      wpAnyI P md ops Q S fuel (listed.setIfInBounds i true) (a.put oi.dst v) w → wpAnyI P md ops Q S (fuel + 1) listed a w := by
  intro fuel
  induction fuel with
  | zero =>
    intro listed a w _ hr hcl hy hS H
    refine ⟨fun h => (by rw [h] at hr; cases hr), fun j hj => ?_⟩
    by_cases hji : j = i
    · subst hji; exact hy.wpOp hi (hG listed w hcl (mem_ready.1 hr).1 hS) ⟨(hinv _ _).2 hS, H⟩
    · have := ready_mono hj hji
      rw [H.1] at this
      cases this
  | succ fuel ih =>
    intro listed a w hfree hr hcl hy hS H
    refine ⟨fun h => (by rw [h] at hr; cases hr), fun j hj => ?_⟩
    by_cases hji : j = i
    · subst hji; exact hy.wpOp hi (hG listed w hcl (mem_ready.1 hr).1 hS) ⟨(hinv _ _).2 hS, H⟩
    · have h1 := H.2 j (ready_mono hj hji)
      obtain ⟨hjun, oj, hoj, hall⟩ := mem_ready.1 hj
      have hnot : ∀ e ∈ oj.after, Region.binds md e = true → e.on ≠ i := fun e he hb heq => by
        have h1 := hall e he hb
        have h0 := (mem_ready.1 hr).1
        rw [heq] at h1
        rcases Nat.lt_or_ge i listed.size with h' | h'
        · simp [h'] at h0 h1; rw [h0] at h1; cases h1
        · simp [Array.getElem?_eq_none h'] at h1
      have h2 := wpOp_putIf hoj (hfree j oj hoj hji hjun hnot) (fun cs b => hsel i oi cs b hi) (fun cs b => hsel j oj cs b hoj) hQ hy h1
      have hfree' : ∀ k ok, ops[k]? = some ok → k ≠ i → (listed.setIfInBounds j true).getD k true = false →
          (∀ e ∈ ok.after, Region.binds md e = true → e.on ≠ i) → oi.apart ops ok = true := fun k ok hk hki hun hno => by
        refine hfree k ok hk hki ?_ hno
        by_cases hjk : j = k
        · subst hjk; exact hjun
        · rw [getD_set_ne true hjk] at hun; exact hun
      refine wpOp_mono (fun a' w' h3 => ?_) h2
      have hS3 : S (listed.setIfInBounds j true) w' := by
        have := h3.2.1
        rw [Array.setIfInBounds_comm _ _ (Ne.symm hji)] at this
        exact (hinv _ _).1 this
      refine ⟨hS3, ih (listed.setIfInBounds j true) a' w' hfree' (ready_mono hr (Ne.symm hji)) (hcl.set hj) h3.1 hS3 ?_⟩
      rw [Array.setIfInBounds_comm _ _ hji]
      exact h3.2.2
theorem wpAnyI_take {i : Nat} {oi : Oper} {v : Value} {fuel : Nat} {listed : Array Bool} {a : Act} {w : World} (hi : ops[i]? = some oi)
    (hs : Region.noSelect ops = true) (hf : Region.free md ops listed i = true) (hr : (Region.ready md ops listed).contains i = true)
    (hQ : ∀ c a w, Q (.panic c) (a.put oi.dst v) w → Q (.panic c) a w) (hinv : ∀ L w, S (L.setIfInBounds i true) w ↔ S L w) {G : World → Prop} (hG : ∀ (L : Array Bool) w, Cl md ops L → L.getD i true = false → S L w → G w) (hcl : Cl md ops listed) (hy : YieldsIf P ops G oi v a) (hS : S listed w)
    (h : wpAnyI P md ops Q S fuel (listed.setIfInBounds i true) (a.put oi.dst v) w) : wpAnyI P md ops Q S (fuel + 1) listed a w :=
  wpAnyI_first hi (Region.noSelect_spec hs) hQ hinv hG fuel listed a w (Region.free_spec hi hf) (by simpa using hr) hcl hy hS h
theorem wpAnyI_all {rs : List Nat} {fuel : Nat} {listed : Array Bool} {a : Act} {w : World} (hr : Region.ready md ops listed = rs) (hne : rs ≠ [])
    (h : ∀ i ∈ rs, wpOp P ops Q i (fun a' w' => S (listed.setIfInBounds i true) w' ∧ wpAnyI P md ops Q S fuel (listed.setIfInBounds i true) a' w') a w) : wpAnyI P md ops Q S (fuel + 1) listed a w :=
  ⟨fun h0 => absurd (hr ▸ h0) hne, hr ▸ h⟩
theorem wpAnyI_done {listed : Array Bool} {a : Act} {w : World} (hr : Region.ready md ops listed = []) (h : Q .normal a w) : ∀ fuel, wpAnyI P md ops Q S fuel listed a w
  | 0 => ⟨hr, h⟩
  | _ + 1 => ⟨fun _ => h, by rw [hr]; simp⟩
theorem wp_region_I {id : Nat} {a : Act} {w : World} (hm : P.follows .mixedOrders = true)
    (h : wpAnyI P .any ops Q S ops.size (Array.replicate ops.size false) a { w with drawn := w.drawn + 1 }) : (Code.region id ops true).wp P Q a w :=
  wp_region_any hm (wpAny_of_I _ _ _ _ h)
end
def EV (P : Program) (n : Nat) (ρ : E) (w : World) (o : Oper) (v : Value) : Prop := ∀ a, Rep n a ρ → (execOp a.eval o).run P w = .ok (.value v) w
/-- An order: 0: the operation comes alone; 1: it may be taken first, it asks no memory; 2: it may be taken first, it reads memory that stands till s has come. -/
def waitsB (ops : Array Oper) (s i : Nat) : Bool := match ops[s]? with
  | some o => o.after.any fun e => Region.binds .any e && e.on == i
  | none => true
def chk (ops : Array Oper) (s : Nat) : List (Nat × Nat) → List Bool → Bool
  | [], L => (Region.ready .any ops L.toArray).isEmpty
  | (i, 0) :: r, L => (Region.ready .any ops L.toArray == [i]) && chk ops s r (L.set i true)
  | (i, 1) :: r, L => Region.free .any ops L.toArray i && (Region.ready .any ops L.toArray).contains i && (i != s) && chk ops s r (L.set i true)
  | (i, _ + 2) :: r, L => Region.free .any ops L.toArray i && (Region.ready .any ops L.toArray).contains i && (i != s) && waitsB ops s i && chk ops s r (L.set i true)
def SF (all : Array Oper) (s : Nat) (F : World → Prop) (L : Array Bool) (w : World) : Prop := ((all[s]?).isSome && L.getD s false) = false → F w
section
variable {P : Program} [hT : Tab P] {n : Nat} {ds : List Deferred} {Φ : Post} {k : List It} {ρ : E} {w : World} {all : Array Oper} {l : List Oper} {md : Option (List Oper)}
omit hT in
theorem EV.pu {o : Oper} {v : Value} (h : pureV ρ o.op = some v) : EV P n ρ w o v := fun _ hr => pureV_ok h hr
omit hT in
theorem EV.ar {o : Oper} {x : Int} (h : arV ρ o.op = some x) (hb : -9223372036854775808 ≤ x ∧ x ≤ 9223372036854775807) : EV P n ρ w o (.int .i64 x) := fun _ hr => arV_ok h hb hr
theorem EV.len {o : Oper} {t e m c : Nat} {x : Operand} {A : Option Addr} (ho : o.op = .call { callee := .builtin .len, args := #[x], argTypes := #[t] })
    (ht : tyD P t = some (.slice e)) (hx : ev ρ x = some (.slice A m c)) : EV P n ρ w o (.int .i64 m) := by
  intro a hr
  have hu := td_slice (tyD_ok ht)
  simp [execOp, ho, resolve, hr.ev hx, invoke, builtin, Builtin.len_, run_und hu, goInt]
theorem EV.idx {o : Oper} {t e sz m c : Nat} {x y : Operand} {A : Addr} {i : Int} (ho : o.op = .indexAddr t x y)
    (ht : tyD P t = some (.slice e)) (hs : tyS P e = some sz) (hx : ev ρ x = some (.slice (some A) m c)) (hy : ev ρ y = some (.int .i64 i)) (h0 : 0 ≤ i) (h1 : i < m) : EV P n ρ w o (.pointer (some (A.add (i.toNat * sz)))) := by
  intro a hr
  have hu := td_slice (tyD_ok ht)
  simp [execOp, ho, Instr.indexAt, asIntOf, hr.ev hx, hr.ev hy, run_und hu, run_sizeOf hs, h0, h1]
theorem EV.fld {o : Oper} {t i off sz : Nat} {x : Operand} {p : Addr} (ho : o.op = .fieldAddr t x i) (ht : fieldOff P t i = some (off, sz + 1)) (hx : ev ρ x = some (.pointer (some p))) : EV P n ρ w o (.pointer (some (p.add off))) := by
  intro a hr
  obtain ⟨gs, f, hu, hf, h1, h2⟩ := fieldOff_ok ht
  cases hi : P.info? f.type with
  | none => rw [hi] at h2; simp at h2
  | some j =>
    rw [hi] at h2
    simp at h2
    simp [execOp, ho, Instr.fieldAt, Instr.sureAddr, hr.ev hx, run_und hu, hf, fieldPlace, sizeOf, typeInfo, hi, h2, h1]
theorem EV.ld {o : Oper} {t : Nat} {x : Operand} {p : Addr} {v : Value} (ho : o.op = .load t x) (ht : tyAgg P t = some false) (hx : ev ρ x = some (.pointer (some p))) (hc : w.cell? p = some v) : EV P n ρ w o v := by
  intro a hr
  simp [execOp, ho, Instr.loadAt, Instr.sureAddr, hr.ev hx, loadVar, run_isAgg ht, load, Sem.run, hc]
def Ord (P : Program) (n : Nat) (ds : List Deferred) (all : Array Oper) (k : List It) (Φ : Post) (s : Nat) (F : World → Prop) (π : List (Nat × Nat)) (L : List Bool) (ρ : E) (w : World) : Prop :=
  chk all s π L = true → Region.noSelect all = true → (all.toList.all fun o => dOk n o.dst) = true → Cl .any all L.toArray → SF all s F L.toArray w → ∀ a, Rep n a ρ → a.defers = ds → wpAnyI P .any all (lift n ds (Qof P n ds Φ k)) (SF all s F) π.length L.toArray a w
variable {s : Nat} {F : World → Prop} {π : List (Nat × Nat)} {L : List Bool}
omit hT in
theorem Ord.nil (h : W P n ds k Φ ρ w) : Ord P n ds all k Φ s F [] L ρ w := fun hc _ _ _ _ a hr hd => wpAnyI_done (by simpa [chk] using hc) ⟨ρ, hr, LiftD.mk hd h⟩ _
omit hT in
theorem SF.inv {i : Nat} (h : i ≠ s) (L : Array Bool) (w : World) : SF all s F (L.setIfInBounds i true) w ↔ SF all s F L w := by
  unfold SF
  rw [getD_set_ne false h]
omit hT in
theorem pan_in (hΦ : ∀ c ρ w, (Φ (.panic c) ρ w → Φ (.panic c) [] w)) : ∀ (k : List It) c ρ w, Qof P n ds Φ k (.panic c) ρ w → Qof P n ds Φ k (.panic c) [] w := by
  intro k
  induction k with
  | nil => exact hΦ
  | cons x r ih => cases x <;> exact ih
omit hT in
/-- A panic looks at no slot. -/
theorem lift_pan (hΦ : ∀ c ρ w, (Φ (.panic c) ρ w → Φ (.panic c) [] w)) {c : List PanicEntry} {a : Act} {dst : Option Tmp} {v : Value} (h : lift n ds (Qof P n ds Φ k) (.panic c) (a.put dst v) w) : lift n ds (Qof P n ds Φ k) (.panic c) a w := by
  obtain ⟨ρ', hr', hd', hq⟩ := h
  have h1 := hr'.size
  refine ⟨[], ⟨by cases dst <;> simpa [Act.put] using h1, fun _ _ h => by simp [look] at h⟩, by cases dst <;> exact hd', pan_in hΦ k c ρ' w hq⟩
omit hT in
theorem Ord.take_ {i d : Nat} {o : Oper} {v : Value} {G : World → Prop} (ho : all[i]? = some o) (hd : o.dst = some d) (hg : o.guard = none) (hΦ : ∀ c ρ w, (Φ (.panic c) ρ w → Φ (.panic c) [] w)) (his : i ≠ s) (hf : Region.free .any all L.toArray i = true) (hr : (Region.ready .any all L.toArray).contains i = true)
    (hG : ∀ (L : Array Bool) w, Cl .any all L → L.getD i true = false → SF all s F L w → G w) (hev : ∀ w', G w' → EV P n ρ w' o v)
    (hs : Region.noSelect all = true) (hdo : (all.toList.all fun o => dOk n o.dst) = true) (hcl : Cl .any all L.toArray) (hS : SF all s F L.toArray w) {a : Act} (har : Rep n a ρ) (hds : a.defers = ds) {m : Nat}
    (h : ∀ a, Rep n a ((d, v) :: ρ) → a.defers = ds → Cl .any all (L.set i true).toArray → SF all s F (L.set i true).toArray w → wpAnyI P .any all (lift n ds (Qof P n ds Φ k)) (SF all s F) m (L.set i true).toArray a w) : wpAnyI P .any all (lift n ds (Qof P n ds Φ k)) (SF all s F) (m + 1) L.toArray a w := by
  have hdn : dOk n o.dst = true := by
    rw [List.all_eq_true] at hdo
    exact hdo o (by rw [← Array.getElem?_toList] at ho; exact List.mem_of_getElem? ho)
  refine wpAnyI_take ho hs hf hr (fun c a w hq => lift_pan hΦ hq) (SF.inv his) hG hcl (v := v) (.inl ⟨by simp [Region.wanted, hg], fun w' hw' => hev w' hw' a har⟩) hS ?_
  have := h (a.put o.dst v) (by have := har.put hdn v; rw [hd] at this ⊢; exact this) (by rw [hd]; exact hds) (by rw [← List.setIfInBounds_toArray]; exact hcl.set (by simpa using hr)) (by rw [← List.setIfInBounds_toArray]; exact (SF.inv his _ _).2 hS)
  rw [List.setIfInBounds_toArray]
  exact this
omit hT in
theorem Ord.take {i d : Nat} {o : Oper} {v : Value} (ho : all[i]? = some o) (hd : o.dst = some d) (hg : o.guard = none) (hΦ : ∀ c ρ w, (Φ (.panic c) ρ w → Φ (.panic c) [] w)) (hev : ∀ w', EV P n ρ w' o v)
    (h : Ord P n ds all k Φ s F π (L.set i true) ((d, v) :: ρ) w) : Ord P n ds all k Φ s F ((i, 1) :: π) L ρ w := by
  intro hc hs hdo hcl hS a hr hds
  simp only [chk, Bool.and_eq_true, bne_iff_ne] at hc
  exact Ord.take_ (G := fun _ => True) ho hd hg hΦ hc.1.2 hc.1.1.1 hc.1.1.2 (fun _ _ _ _ _ => trivial) (fun w' _ => hev w') hs hdo hcl hS hr hds (fun a hr hd hcl hS => h hc.2 hs hdo hcl hS a hr hd)
omit hT in
theorem Ord.read {i d : Nat} {o : Oper} {v : Value} (ho : all[i]? = some o) (hd : o.dst = some d) (hg : o.guard = none) (hΦ : ∀ c ρ w, (Φ (.panic c) ρ w → Φ (.panic c) [] w)) (hev : ∀ w', F w' → EV P n ρ w' o v)
    (h : Ord P n ds all k Φ s F π (L.set i true) ((d, v) :: ρ) w) : Ord P n ds all k Φ s F ((i, 2) :: π) L ρ w := by
  intro hc hs hdo hcl hS a hr hds
  simp only [chk, Bool.and_eq_true, bne_iff_ne] at hc
  refine Ord.take_ (G := F) ho hd hg hΦ hc.1.1.2 hc.1.1.1.1 hc.1.1.1.2 (fun L w hcl hLi hSF => hSF ?_) hev hs hdo hcl hS hr hds (fun a hr hd hcl hS => h hc.2 hs hdo hcl hS a hr hd)
  cases hos : all[s]? with
  | none => rfl
  | some os =>
    cases hb : L.getD s false with
    | false => rfl
    | true =>
      have hw := hc.1.2
      unfold waitsB at hw
      rw [hos] at hw
      simp only [Array.any_eq_true', Bool.and_eq_true, beq_iff_eq] at hw
      obtain ⟨e, he, hb1, hb2⟩ := hw
      have := hcl s os hos hb e he hb1
      rw [hb2] at this
      rw [Array.getD_eq_getD_getElem?] at this hLi
      cases hx : L[i]? with
      | none => rw [hx] at this; simp at this
      | some b => rw [hx] at this hLi; simp at this hLi; rw [this] at hLi; cases hLi
omit hT in
theorem Ord.eff {i : Nat} {o : Oper} (ho : all[i]? = some o)
    (h : Ops none P n ds all (.lp (fun ρ1 w1 => SF all s F (L.set i true).toArray w1 ∧ Ord P n ds all k Φ s F π (L.set i true) ρ1 w1) :: k) Φ [o] ρ w) : Ord P n ds all k Φ s F ((i, 0) :: π) L ρ w := by
  intro hc hs hdo hcl hS a hr hds
  simp only [chk, Bool.and_eq_true, beq_iff_eq] at hc
  have hdn : dOk n o.dst = true := by
    rw [List.all_eq_true] at hdo
    exact hdo o (by rw [← Array.getElem?_toList] at ho; exact List.mem_of_getElem? ho)
  have h' : wpList P all (lift n ds (Qof P n ds Φ (.lp (fun ρ1 w1 => SF all s F (L.set i true).toArray w1 ∧ Ord P n ds all k Φ s F π (L.set i true) ρ1 w1) :: k))) [o] a w := h (by simp [hdn]) a hr hds
  have hcl' : Cl .any all (L.set i true).toArray := by rw [← List.setIfInBounds_toArray]; exact hcl.set (by rw [hc.1]; simp)
  refine wpAnyI_all hc.1 (by simp) fun j hj => ?_
  simp only [List.mem_singleton] at hj
  subst hj
  have hK : ∀ a' w', wpList P all (lift n ds (Qof P n ds Φ (.lp (fun ρ1 w1 => SF all s F (L.set j true).toArray w1 ∧ Ord P n ds all k Φ s F π (L.set j true) ρ1 w1) :: k))) [] a' w' → SF all s F (L.toArray.setIfInBounds j true) w' ∧ wpAnyI P .any all (lift n ds (Qof P n ds Φ k)) (SF all s F) π.length (L.toArray.setIfInBounds j true) a' w' := by
    rintro a' w' ⟨ρ1, hr1, hd1, hS1, hO⟩
    rw [List.setIfInBounds_toArray]
    exact ⟨hS1, hO hc.2 hs hdo hcl' hS1 a' hr1 hd1⟩
  have hq : ∀ c a w, lift n ds (Qof P n ds Φ (.lp (fun ρ1 w1 => SF all s F (L.set j true).toArray w1 ∧ Ord P n ds all k Φ s F π (L.set j true) ρ1 w1) :: k)) (.panic c) a w → lift n ds (Qof P n ds Φ k) (.panic c) a w := fun _ _ _ h => h
  unfold wpList at h'
  unfold wpOp
  simp only [ho]
  split
  · rename_i hw
    rw [if_pos hw] at h'
    rcases h' with h' | ⟨h1, a', w', h2⟩
    · left
      unfold Oper.wp at h' ⊢
      generalize (execOp a.eval o).run P w = r at *
      cases r with
      | ok nx w' =>
        cases nx <;> simp only [Oper.upon] at h' ⊢
        case value v => exact hK _ _ h'
        case skip => exact hK _ _ h'
        case defer d => exact hK _ _ h'
        case enter f args =>
          refine h'.mono fun e w'' he => ?_
          cases e with
          | returned v => exact hK _ _ he
          | panicked ch => exact hq _ _ _ he
          | outgrown => obtain ⟨a, w, ho⟩ := he; exact ⟨a, w, ho⟩
        case row r args => exact h'.mono fun v w'' hv => hK _ _ hv
      | halt x w' =>
        cases x <;> simp only [Oper.upon] at h' ⊢
        exact hq _ _ _ h'
    · exact .inr ⟨h1, a', w', h2⟩
  · rename_i hw
    rw [if_neg hw] at h'
    exact hK _ _ h'
omit hT in
/-- The region, in the order π; F stands till operation s has come. -/
theorem W.ord {id : Nat} {ops : Array Oper} (s : Nat) (F : World → Prop) (π : List (Nat × Nat)) (hm : P.follows .mixedOrders = true) (hs : Region.noSelect ops = true) (hlen : π.length = ops.size) (hc : chk ops s π (List.replicate π.length false) = true)
    (h : ∀ w', Kp (fun _ => False) w w' → w'.heap = w.heap → F w' ∧ Ord P n ds ops k Φ s F π (List.replicate π.length false) ρ w') : W P n ds (.code (.region id ops true) :: k) Φ ρ w := by
  intro hi a hr hd
  obtain ⟨hF, hO⟩ := h _ (kp_drew w) rfl
  refine wp_region_I (S := SF ops s F) hm ?_
  have := hO hc hs (by simpa [inB] using hi) (by rw [List.toArray_replicate]; exact Cl.start _) (fun _ => hF) a hr hd
  rw [← hlen]
  rw [List.toArray_replicate] at this
  exact this
/-- max and min of two ints. -/
theorem Ops.max {o : Oper} {d : Nat} {x y : Operand} {ts : Array TypeId} {a b : Int} (ho : o.op = .call { callee := .builtin .max, args := #[x, y], argTypes := ts }) (hd : o.dst = some d) (hg : o.guard = none)
    (hx : ev ρ x = some (.int .i64 a)) (hy : ev ρ y = some (.int .i64 b)) (hk : Ops md P n ds all k Φ l ((d, .int .i64 (Max.max a b)) :: ρ) w) : Ops md P n ds all k Φ (o :: l) ρ w := by
  refine Ops.valS hd hg (fun c hr => ?_) hk
  have e : (if b > a then b else a) = Max.max a b := by simp only [Int.max_def]; split <;> split <;> omega
  simp [execOp, ho, resolve, hr.ev hx, hr.ev hy, invoke, builtin, Builtin.max_, Builtin.max2, ← e]
theorem Ops.min {o : Oper} {d : Nat} {x y : Operand} {ts : Array TypeId} {a b : Int} (ho : o.op = .call { callee := .builtin .min, args := #[x, y], argTypes := ts }) (hd : o.dst = some d) (hg : o.guard = none)
    (hx : ev ρ x = some (.int .i64 a)) (hy : ev ρ y = some (.int .i64 b)) (hk : Ops md P n ds all k Φ l ((d, .int .i64 (Min.min a b)) :: ρ) w) : Ops md P n ds all k Φ (o :: l) ρ w := by
  refine Ops.valS hd hg (fun c hr => ?_) hk
  have e : (if b < a then b else a) = Min.min a b := by simp only [Int.min_def]; split <;> split <;> omega
  simp [execOp, ho, resolve, hr.ev hx, hr.ev hy, invoke, builtin, Builtin.min_, Builtin.min2, ← e]
/-- s = append(s, x): a slice of the call's own grows by one element of one cell. -/
theorem Ops.push {o1 o2 : Oper} {d1 d2 t e by' nn : Nat} {x y : Operand} {u lv z : Value} {xs : List Value}
    (h1 : o1.op = .buildSlice t 1 #[(0, x)]) (hd1 : o1.dst = some d1) (hg1 : o1.guard = none) (h2 : o2.op = .call { callee := .builtin .append, args := #[y, .tmp d1], argTypes := #[t, t] }) (hd2 : o2.dst = some d2) (hg2 : o2.guard = none)
    (ht : tyD P t = some (.slice e)) (hs : tyS P e = some 1) (hb : tyB P e = some (by' + 1)) (hz : tyZ P e = some z) (hzs : z.cells.size = 1) (hx : ev ρ x = some u) (hy : ∀ p, ev ((d1, p) :: ρ) y = some lv) (hu : u.oneCell' = true)
    (hown : w.ownsRow 0 e 1 lv nn xs) (hbytes : (nn + 1) * (by' + 1) ≤ 140737488355328)
    (hk : ∀ lv' p w', w'.ownsRow 0 e 1 lv' (nn + 1) (xs ++ [u]) → Kp (fun i => lv.ownBlock = some i) w w' → (∀ i, lv'.ownBlock = some i → lv.ownBlock = some i ∨ w.heap.size ≤ i) → Ops none P n ds all k Φ l ((d2, lv') :: (d1, p) :: ρ) w') : Ops none P n ds all k Φ (o1 :: o2 :: l) ρ w := by
  refine Ops.bs1 h1 hd1 hg1 ht hs hz hzs hx hu (fun w1 r hM => ?_)
  have hone := own_one hM
  refine Ops.app (sz := 0) (news := [u]) (m := 1) (A := ⟨r, 0, none⟩) (c := 1) h2 hd2 hg2 ht hs hb hz hzs (hy _) (ev_top _ _ _) (own_kp hown hM.kp (fun _ _ e => e)) rfl (hone.cells (g := r) rfl) (by simp [hu]) hbytes (fun v' w' ho hk' hn => hk v' _ w' ho ?_ ?_)
  · exact (hM.kp.trans hk').mono (fun i _ e => by rcases e with e | e; exact e.elim; exact e)
  · intro i hi
    rcases hn i hi with h | h
    · exact .inl h
    · right; have := hM.size; omega
end
end Go.Proofs.YtcmjlmnfdncajaaGreatDoor.VW
/- More on slices: cap, s[:h], append of whole slices, of zeros; slices of structs of the call's own. -/
namespace Go.Proofs.YtcmjlmnfdncajaaGreatDoor.VW
open Go Go.RowKit
section
variable {P : Program} [hT : Tab P] {n : Nat} {ds : List Deferred} {Φ : Post} {k : List It} {ρ : E} {w : World} {all : Array Oper} {l : List Oper} {md : Option (List Oper)}
theorem Ops.cap {o : Oper} {d t e m c : Nat} {x : Operand} {A : Option Addr} (ho : o.op = .call { callee := .builtin .cap, args := #[x], argTypes := #[t] }) (hd : o.dst = some d) (hg : o.guard = none)
    (ht : tyD P t = some (.slice e)) (hx : ev ρ x = some (.slice A m c)) (hk : Ops md P n ds all k Φ l ((d, .int .i64 c) :: ρ) w) : Ops md P n ds all k Φ (o :: l) ρ w := by
  refine Ops.valS hd hg (fun a hr => ?_) hk
  simp [execOp, ho, resolve, hr.ev hx, invoke, builtin, Builtin.cap_, run_und (td_slice (tyD_ok ht)), goInt]
theorem Ops.slH {o : Oper} {d t e sz m c : Nat} {x y : Operand} {A : Option Addr} {h : Int} (ho : o.op = .slice t x none (some y) none) (hd : o.dst = some d) (hg : o.guard = none)
    (ht : tyD P t = some (.slice e)) (hs : tyS P e = some sz) (hx : ev ρ x = some (.slice A m c)) (hy : ev ρ y = some (.int .i64 h)) (h0 : 0 ≤ h) (h1 : h ≤ c) (hk : Ops md P n ds all k Φ l ((d, .slice A h.toNat c) :: ρ) w) : Ops md P n ds all k Φ (o :: l) ρ w := by
  refine Ops.valS hd hg (fun a hr => ?_) hk
  have e0 : A.map (fun p : Addr => p.add 0) = A := by cases A <;> simp [Addr.add]
  simp [execOp, ho, hr.ev hx, hr.ev hy, Instr.sliceAt, Instr.slice, Instr.sliceBounds, Instr.sliceBound, asIntOf, run_und (td_slice (tyD_ok ht)), run_sizeOf hs, h0, h1, e0]
/-- s = append(s, t...). -/
theorem Ops.appS {α : Type} {enc : α → Value} {z0 : α} {o : Oper} {d t e by' : Nat} {x y : Operand} {v yv z : Value} {nn : Nat} {xs : List Value} {ys : List α} (ho : o.op = .call { callee := .builtin .append, args := #[x, y], argTypes := #[t, t] }) (hd : o.dst = some d) (hg : o.guard = none)
    (ht : tyD P t = some (.slice e)) (hs : tyS P e = some 1) (hb : tyB P e = some (by' + 1)) (hz : tyZ P e = some z) (hzs : z.cells.size = 1) (hx : ev ρ x = some v) (hy : ev ρ y = some yv)
    (hown : w.ownsRow 0 e 1 v nn xs) (hys : Sl enc z0 w yv ys) (h1 : ∀ u, (enc u).oneCell' = true) (hbytes : (nn + ys.length) * (by' + 1) ≤ 140737488355328)
    (hk : ∀ v' w', w'.ownsRow 0 e 1 v' (nn + ys.length) (xs ++ ys.map enc) → Kp (fun i => v.ownBlock = some i) w w' → (∀ i, v'.ownBlock = some i → v.ownBlock = some i ∨ w.heap.size ≤ i) → Ops none P n ds all k Φ l ((d, v') :: ρ) w') : Ops none P n ds all k Φ (o :: l) ρ w := by
  obtain ⟨hm, A, c, rfl, hc⟩ := hys
  by_cases hp : 0 < ys.length
  · obtain ⟨a, rfl, hc2⟩ := hc hp
    refine Ops.app (sz := 0) ho hd hg ht hs hb hz hzs hx hy hown (by simp) ?_ (by simp; exact fun u _ => h1 u) hbytes hk
    intro j u hu
    rw [List.getElem?_map] at hu
    by_cases hj : j < ys.length
    · rw [hc2 j hj]
      simp [hj] at hu
      simp [← hu, List.getD_eq_getElem?_getD, hj]
    · rw [List.getElem?_eq_none (by omega)] at hu
      simp at hu
  · have hy0 : ys = [] := List.eq_nil_of_length_eq_zero (by omega)
    subst hy0
    obtain ⟨f, hi, h2, h3, h4⟩ := tyE_ok hs hb hz
    have hfc : (Builtin.firstCells f.size 0 (.slice A 0 c)).run P w = .ok #[] w := by
      cases A <;> simp [Builtin.firstCells, loadCells, loadCellsFrom]
    have hv' : ∃ B cap, v = .slice B nn cap ∧ nn ≤ cap := by
      rcases hown.2 with ⟨rfl, rfl⟩ | ⟨g, cap, cur, rfl, _, hg, hnc, _⟩
      · exact ⟨none, 0, rfl, Nat.le_refl _⟩
      · exact ⟨_, cap, rfl, hnc⟩
    obtain ⟨B, cap, rfl, hcap⟩ := hv'
    refine Ops.val hd hg (fun a hr => ?_) (hk (.slice B nn cap) w (by simpa using hown) (Kp.refl _ _) (fun i hi => .inl hi))
    simp only [List.length_nil] at hy
    cases B with
    | none => simp [execOp, ho, resolve, invoke, builtin, hr.ev hx, hr.ev hy, Builtin.append_, run_und (td_slice (tyD_ok ht)), sizeOf, typeInfo, hi, Builtin.lenOf, hcap, hfc]
    | some b => simp [execOp, ho, resolve, invoke, builtin, hr.ev hx, hr.ev hy, Builtin.append_, run_und (td_slice (tyD_ok ht)), sizeOf, typeInfo, hi, Builtin.lenOf, hcap, hfc, storeCells]
/-- append([]T(nil), make([]T, n)...). -/
theorem Ops.appZ {o : Oper} {d t u e by' : Nat} {x y : Operand} {z : Value} {i : Int} {kk : IntKind} (ho : o.op = .call { callee := .builtin .append, args := #[x, y], argTypes := #[t, u] }) (hd : o.dst = some d) (hg : o.guard = none)
    (ht : tyD P t = some (.slice e)) (hu : tyD P u = some (.int kk)) (hs : tyS P e = some 1) (hb : tyB P e = some (by' + 1)) (hz : tyZ P e = some z) (hzs : z.cells.size = 1) (hx : ev ρ x = some (.slice none 0 0)) (hy : ev ρ y = some (.int .i64 i)) (h0 : 0 < i) (h1 : i.toNat * (by' + 1) ≤ 140737488355328)
    (hk : ∀ r c w', w.heap.size ≤ r → i.toNat ≤ c → w'.ownsRow 0 e 1 (.slice (some ⟨r, 0, none⟩) 0 c) 0 [] → Kp (fun _ => False) w w' → Ops none P n ds all k Φ l ((d, .slice (some ⟨r, 0, none⟩) i.toNat c) :: ρ) w') : Ops none P n ds all k Φ (o :: l) ρ w := by
  obtain ⟨f, hi, h2, h3, h4⟩ := tyE_ok hs hb hz
  obtain ⟨m, rfl⟩ := Int.eq_ofNat_of_zero_le (Int.le_of_lt h0)
  simp only [Int.toNat_natCast] at h1 hk
  have hm : 0 < m := by omega
  have h5 : m ≤ m * (by' + 1) := Nat.le_mul_of_pos_right m (by omega)
  have h63 : (m : Int) ≤ 9223372036854775807 := by omega
  have hw : IntKind.i64.wrap (m : Int) = m := wrap_in ⟨by omega, h63⟩
  have hge : m ≤ grownCap w m 0 e := grownCap_ge w m 0 e
  have hle : grownCap w m 0 e ≤ maxLen := grownCap_le_maxLen w m 0 e (by simp only [maxLen]; omega)
  have hnb : ¬ (281474976710656 < (m : Int) * f.bytes) := by
    rw [h3]
    have : ((m * (by' + 1) : Nat) : Int) ≤ 281474976710656 := by omega
    push_cast at this
    push_cast
    omega
  have hnc : ¬ (281474976710656 < Builtin.nextslicecap m 0 * f.bytes) := by rw [nextslicecap_zero hm, h3]; omega
  have hn0 : ¬ (m = 0) := by omega
  have hnz : ¬ ((m : Int) < 0) := by omega
  have hn63 : ¬ (9223372036854775807 < (m : Int)) := by omega
  have hfn : (Builtin.firstCells f.size 0 (.slice none 0 0)).run P w.drew = .ok #[] w.drew := by simp [Builtin.firstCells]
  refine Ops.val hd hg (w' := w.drew.alloc (.cells (Builtin.zeroCells z.cells m ++ Builtin.zeroCells z.cells (grownCap w m 0 e - m)) e)) (v := .slice (some ⟨w.heap.size, 0, none⟩) m (grownCap w m 0 e)) (fun a hr => ?_) (hk _ _ _ (Nat.le_refl _) hge ?_ ?_)
  · simp [execOp, ho, resolve, invoke, builtin, hr.ev hx, hr.ev hy, Builtin.append_, run_und (td_slice (tyD_ok ht)), run_und (td_int (tyD_ok hu)), sizeOf, typeInfo, zeroValue, hi, h4, asInt, asIntOf, hw, hnb, hnc, hn0, hnz, hn63, Question.forced, newRow, grownCap, h2]
    rw [h2] at hfn
    rw [hfn]
    simp
  · refine ⟨rfl, .inr ⟨w.heap.size, _, _, rfl, Nat.zero_le _, heap_alloc_new w.drew _, Nat.zero_le _, hle, ?_, rfl⟩⟩
    simp only [Array.size_append, size_zeroCells, hzs]
    omega
  · exact ⟨rfl, rfl, rfl, by simp, fun i hi _ => Below.heap_alloc w.drew _ i hi⟩
end
end Go.Proofs.YtcmjlmnfdncajaaGreatDoor.VW
/- Slices of structs of the call's own; results that lie in memory. -/
namespace Go.Proofs.YtcmjlmnfdncajaaGreatDoor.VW
open Go Go.RowKit
section
variable {P : Program} [hT : Tab P] {n : Nat} {ds : List Deferred} {Φ : Post} {k : List It} {ρ : E} {w : World} {all : Array Oper} {l : List Oper} {md : Option (List Oper)}
theorem own_at {e sz m : Nat} {v : Value} {cs : List Value} (hown : w.ownsRow 0 e sz v m cs) (hm : 0 < m) : ∃ g cap, v = .slice (some ⟨g, 0, none⟩) m cap ∧ ∀ j, j < m * sz → w.cell? ⟨g, j, none⟩ = some (cs.getD j undef) := by
  obtain ⟨g, cap, rfl⟩ : ∃ g cap, v = .slice (some ⟨g, 0, none⟩) m cap := by
    rcases hown.2 with ⟨_, h⟩ | ⟨g, cap, _, h, _⟩
    · omega
    · exact ⟨g, cap, h⟩
  refine ⟨g, cap, rfl, fun j hj => ?_⟩
  have := hown.cells (g := g) rfl j (cs.getD j undef) (by
    have hl := hown.1
    simp [List.getD_eq_getElem?_getD, hl, hj])
  rw [add_lit, Nat.zero_add] at this
  exact this
theorem mul_lt {i m sz off : Nat} (h : i < m) (ho : off < sz) : i * sz + off < m * sz := by
  have : (i + 1) * sz ≤ m * sz := Nat.mul_le_mul_right _ h
  rw [Nat.add_mul] at this
  omega
theorem Ops.rdOF {o1 o2 o3 : Oper} {d1 d2 d3 t s t' f e sz off szf m : Nat} {x y : Operand} {v : Value} {i : Int} {cs : List Value}
    (h1 : o1.op = .indexAddr t x y) (hd1 : o1.dst = some d1) (hg1 : o1.guard = none) (h2 : o2.op = .fieldAddr s (.tmp d1) f) (hd2 : o2.dst = some d2) (hg2 : o2.guard = none) (h3 : o3.op = .load t' (.tmp d2)) (hd3 : o3.dst = some d3) (hg3 : o3.guard = none)
    (ht : tyD P t = some (.slice e)) (hs : tyS P e = some sz) (hf : fieldOff P s f = some (off, szf + 1)) (hlt : Nat.blt off sz = true) (ha : tyAgg P t' = some false) (hx : ev ρ x = some v) (hy : ev ρ y = some (.int .i64 i)) (hown : w.ownsRow 0 e sz v m cs) (h0 : 0 ≤ i) (hi : i < m)
    (hk : ∀ p q, Ops md P n ds all k Φ l ((d3, cs.getD (i.toNat * sz + off) undef) :: (d2, q) :: (d1, p) :: ρ) w) : Ops md P n ds all k Φ (o1 :: o2 :: o3 :: l) ρ w := by
  have hlt' : off < sz := by simpa using hlt
  obtain ⟨g, cap, rfl, hc⟩ := own_at hown (by omega)
  refine Ops.idx h1 hd1 hg1 ht hs hx hy h0 hi (Ops.fld h2 hd2 hg2 hf (ev_top _ _ _) ?_)
  rw [add_lit, add_lit, Nat.zero_add]
  exact Ops.ld h3 hd3 hg3 ha (ev_top _ _ _) (hc _ (mul_lt (by omega) hlt')) (hk _ _)
theorem Ops.rdOA {o1 o2 : Oper} {d1 d2 t t' e m : Nat} {x y : Operand} {v : Value} {i : Int} {cs : List Value}
    (h1 : o1.op = .indexAddr t x y) (hd1 : o1.dst = some d1) (hg1 : o1.guard = none) (h2 : o2.op = .load t' (.tmp d1)) (hd2 : o2.dst = some d2) (hg2 : o2.guard = none)
    (ht : tyD P t = some (.slice e)) (hs : tyS P e = some 2) (hs' : tyS P t' = some 2) (ha : tyAgg P t' = some true) (hx : ev ρ x = some v) (hy : ev ρ y = some (.int .i64 i)) (hown : w.ownsRow 0 e 2 v m cs) (h0 : 0 ≤ i) (hi : i < m)
    (hk : ∀ p, Ops md P n ds all k Φ l ((d2, .agg #[cs.getD (i.toNat * 2) undef, cs.getD (i.toNat * 2 + 1) undef]) :: (d1, p) :: ρ) w) : Ops md P n ds all k Φ (o1 :: o2 :: l) ρ w := by
  obtain ⟨g, cap, rfl, hc⟩ := own_at hown (by omega)
  refine Ops.idx h1 hd1 hg1 ht hs hx hy h0 hi ?_
  rw [add_lit, Nat.zero_add]
  refine Ops.ld2 h2 hd2 hg2 ha hs' (ev_top _ _ _) (hc _ (by omega)) ?_ (hk _)
  rw [add_lit]
  exact hc _ (by omega)
theorem ev_skip {d : Nat} {p : Value} {z : Operand} {u : Value} (hz : ev ρ z = some u) (hzd : z ≠ .tmp d) : ev ((d, p) :: ρ) z = some u := by
  cases z with
  | tmp t2 =>
    have : Nat.beq d t2 = false := by
      cases hb : Nat.beq d t2 with
      | false => rfl
      | true => exact absurd (by rw [Nat.eq_of_beq_eq_true hb]) hzd
    simp only [ev, look, this] at hz ⊢
    exact hz
  | _ => exact hz
theorem own_set {g cap e sz m j : Nat} {cs : List Value} {cur : Array Value} {u : Value} {w' : World} (hown : w.ownsRow 0 e sz (.slice (some ⟨g, 0, none⟩) m cap) m cs) (hb : Blk w g cur e) (hu : Upd w w' g (cur.setIfInBounds j u) e) : w'.ownsRow 0 e sz (.slice (some ⟨g, 0, none⟩) m cap) m (cs.set j u) := by
  rcases hown.2 with ⟨h, _⟩ | ⟨g', cap', cur', h, _, hg, hnc, hcm, hcs, htk⟩
  · simp at h
  · simp only [Value.slice.injEq, Option.some.injEq, Addr.mk.injEq, and_true, true_and] at h
    obtain ⟨rfl, rfl⟩ := h
    unfold Blk at hb
    rw [hb] at hg
    simp only [Option.some.injEq, Obj.cells.injEq, and_true] at hg
    subst hg
    refine ⟨by simpa using hown.1, .inr ⟨g, cap, _, rfl, Nat.zero_le _, hu.blk, hnc, hcm, by simpa using hcs, ?_⟩⟩
    rw [Array.toList_setIfInBounds, ← htk, List.take_set]
theorem own_blk {e sz m : Nat} {v : Value} {cs : List Value} (hown : w.ownsRow 0 e sz v m cs) (hm : 0 < m) : ∃ g cap cur, v = .slice (some ⟨g, 0, none⟩) m cap ∧ Blk w g cur e ∧ m * sz ≤ cur.size := by
  rcases hown.2 with ⟨rfl, h⟩ | ⟨g, cap, cur, rfl, _, hg, hnc, _, hcs, _⟩
  · omega
  · exact ⟨g, cap, cur, rfl, hg, by rw [hcs]; exact Nat.mul_le_mul_right _ hnc⟩
/-- A field of an element of a slice of the call's own, written. -/
theorem Ops.wrOF {o1 o2 o3 : Oper} {d1 d2 t s t' f e sz off szf m : Nat} {x y z : Operand} {v u : Value} {i : Int} {cs : List Value}
    (h1 : o1.op = .indexAddr t x y) (hd1 : o1.dst = some d1) (hg1 : o1.guard = none) (h2 : o2.op = .fieldAddr s (.tmp d1) f) (hd2 : o2.dst = some d2) (hg2 : o2.guard = none) (h3 : o3.op = .store t' (.tmp d2) z) (hd3 : o3.dst = none) (hg3 : o3.guard = none)
    (ht : tyD P t = some (.slice e)) (hs : tyS P e = some sz) (hf : fieldOff P s f = some (off, szf + 1)) (hlt : Nat.blt off sz = true) (hs' : tyS P t' = some 1) (hx : ev ρ x = some v) (hy : ev ρ y = some (.int .i64 i)) (hz : ev ρ z = some u) (hz1 : z ≠ .tmp d1) (hz2 : z ≠ .tmp d2) (hu1 : u.oneCell' = true)
    (hown : w.ownsRow 0 e sz v m cs) (h0 : 0 ≤ i) (hi : i < m)
    (hk : ∀ w' p q, w'.ownsRow 0 e sz v m (cs.set (i.toNat * sz + off) u) → Kp (fun b => v.ownBlock = some b) w w' → Ops none P n ds all k Φ l ((d2, q) :: (d1, p) :: ρ) w') : Ops none P n ds all k Φ (o1 :: o2 :: o3 :: l) ρ w := by
  have hlt' : off < sz := by simpa using hlt
  obtain ⟨g, cap, cur, rfl, hb, hcs⟩ := own_blk hown (by omega)
  refine Ops.idx h1 hd1 hg1 ht hs hx hy h0 hi (Ops.fld h2 hd2 hg2 hf (ev_top _ _ _) ?_)
  rw [add_lit, add_lit, Nat.zero_add]
  have hbd := mul_lt (i := i.toNat) (m := m) (sz := sz) (off := off) (by omega) hlt'
  refine Ops.st h3 hd3 hg3 hs' (ev_top _ _ _) (ev_skip (ev_skip hz hz1) hz2) hu1 hb (by omega) (fun w' hu => hk w' _ _ (own_set hown hb hu) ?_)
  exact hu.kp.mono (fun i _ e => by simp [Value.ownBlock, e])
/-- An element of two cells of a slice of the call's own, written. -/
theorem Ops.wrOA {o1 o2 : Oper} {d1 t t' e m : Nat} {x y z : Operand} {v a b : Value} {i : Int} {cs : List Value}
    (h1 : o1.op = .indexAddr t x y) (hd1 : o1.dst = some d1) (hg1 : o1.guard = none) (h2 : o2.op = .store t' (.tmp d1) z) (hd2 : o2.dst = none) (hg2 : o2.guard = none)
    (ht : tyD P t = some (.slice e)) (hs : tyS P e = some 2) (hs' : tyS P t' = some 2) (hx : ev ρ x = some v) (hy : ev ρ y = some (.int .i64 i)) (hz : ev ρ z = some (.agg #[a, b])) (hz1 : z ≠ .tmp d1) (ha1 : a.oneCell' = true) (hb1 : b.oneCell' = true)
    (hown : w.ownsRow 0 e 2 v m cs) (h0 : 0 ≤ i) (hi : i < m)
    (hk : ∀ w' p, w'.ownsRow 0 e 2 v m ((cs.set (i.toNat * 2) a).set (i.toNat * 2 + 1) b) → Kp (fun b => v.ownBlock = some b) w w' → Ops none P n ds all k Φ l ((d1, p) :: ρ) w') : Ops none P n ds all k Φ (o1 :: o2 :: l) ρ w := by
  obtain ⟨g, cap, cur, rfl, hb, hcs⟩ := own_blk hown (by omega)
  refine Ops.idx h1 hd1 hg1 ht hs hx hy h0 hi ?_
  rw [add_lit, Nat.zero_add]
  have hbd : i.toNat * 2 + 1 < cur.size := by omega
  have hu1 := upd_set hb (i.toNat * 2) a
  have hu2 := upd_set hu1.blk (i.toNat * 2 + 1) b
  have ho1 := own_set hown hb hu1
  have ho2 := own_set ho1 hu1.blk hu2
  refine Ops.unit hg2 hd2 (fun act hr => ?_) (hk ((w.setCell ⟨g, i.toNat * 2, none⟩ a).setCell ⟨g, i.toNat * 2 + 1, none⟩ b) _ ho2 ((hu1.kp.trans hu2.kp).mono (fun i _ e => by simp [Value.ownBlock]; rcases e with e | e <;> exact e.symm)))
  have e0 : ∀ q, (⟨g, q, none⟩ : Addr).add 0 = ⟨g, q, none⟩ := fun q => by simp [Addr.add]
  have e1 : ∀ q, (⟨g, q, none⟩ : Addr).add 1 = ⟨g, q + 1, none⟩ := fun q => by simp [Addr.add]
  have c0' : w.cell? ⟨g, i.toNat * 2, none⟩ = some cur[i.toNat * 2] := hb.cell (by simp)
  have f0 : w.frozen? ⟨g, i.toNat * 2, none⟩ = false := by unfold Blk at hb; simp [World.frozen?, hb]
  have hb1' := hu1.blk
  have c1' : (w.setCell ⟨g, i.toNat * 2, none⟩ a).cell? ⟨g, i.toNat * 2 + 1, none⟩ = some cur[i.toNat * 2 + 1] := hb1'.cell (by rw [Array.getElem?_setIfInBounds_ne (by omega)]; simp [hbd])
  have f1 : (w.setCell ⟨g, i.toNat * 2, none⟩ a).frozen? ⟨g, i.toNat * 2 + 1, none⟩ = false := by unfold Blk at hb1'; simp [World.frozen?, hb1']
  have r0 := run_store (P := P) ha1 c0' f0
  have r1 := run_store (P := P) hb1 c1' f1
  simp only [execOp, h2, hr.ev (ev_top _ _ _), hr.ev (ev_skip hz hz1)]
  simp [Instr.storeAt, Instr.sureAddr, storeVar, run_sizeOf hs', storeCells, Value.cells, e0, e1, r0, r1]
omit hT in
theorem run_equalIn_bool {t : Nat} {a b : Bool} (hu : P.underlying t = some .bool) (d : Nat) : (Op.equalIn (d + 1) t (.bool a) (.bool b)).run P w = .ok (a == b) w := by
  simp [Op.equalIn, run_und hu]
omit hT in
theorem run_equal_bool {t : Nat} {a b : Bool} (hu : P.underlying t = some .bool) : (Op.equal t (.bool a) (.bool b)).run P w = .ok (a == b) w := by
  unfold Op.equal
  rw [show Op.maxDepth = 9999 + 1 from rfl]
  exact run_equalIn_bool hu 9999
/-- == and != of two bools. -/
theorem Ops.eqB {o : Oper} {d t t' : Nat} {x y : Operand} {a b : Bool} (ho : o.op = .binOp .eql t x y t') (hd : o.dst = some d) (hg : o.guard = none) (ht : tyD P t = some .bool) (hx : ev ρ x = some (.bool a)) (hy : ev ρ y = some (.bool b))
    (hk : Ops md P n ds all k Φ l ((d, .bool (a == b)) :: ρ) w) : Ops md P n ds all k Φ (o :: l) ρ w := by
  refine Ops.valS hd hg (fun c hr => ?_) hk
  have hu := run_equal_bool (P := P) (w := w) (a := a) (b := b) (td_bool (tyD_ok ht))
  simp only [execOp, ho, hr.ev hx, hr.ev hy]
  simp [eqGuard, binOp, hu]
theorem Ops.neB {o : Oper} {d t t' : Nat} {x y : Operand} {a b : Bool} (ho : o.op = .binOp .neq t x y t') (hd : o.dst = some d) (hg : o.guard = none) (ht : tyD P t = some .bool) (hx : ev ρ x = some (.bool a)) (hy : ev ρ y = some (.bool b))
    (hk : Ops md P n ds all k Φ l ((d, .bool (!(a == b))) :: ρ) w) : Ops md P n ds all k Φ (o :: l) ρ w := by
  refine Ops.valS hd hg (fun c hr => ?_) hk
  have hu := run_equal_bool (P := P) (w := w) (a := a) (b := b) (td_bool (tyD_ok ht))
  simp only [execOp, ho, hr.ev hx, hr.ev hy]
  simp [eqGuard, binOp, hu]
/-- A literal of two elements of one cell. -/
theorem Ops.bs2 {o : Oper} {d t e : Nat} {x y : Operand} {u v z : Value} (ho : o.op = .buildSlice t 2 #[(0, x), (1, y)]) (hd : o.dst = some d) (hg : o.guard = none)
    (ht : tyD P t = some (.slice e)) (hs : tyS P e = some 1) (hz : tyZ P e = some z) (hzs : z.cells.size = 1) (hx : ev ρ x = some u) (hy : ev ρ y = some v) (h1 : u.oneCell' = true) (h2 : v.oneCell' = true)
    (hk : ∀ w' r, Mk w w' r (.cells #[u, v] e) → Ops none P n ds all k Φ l ((d, .slice (some ⟨r, 0, none⟩) 2 2) :: ρ) w') : Ops none P n ds all k Φ (o :: l) ρ w := by
  refine Ops.val hd hg (fun a hr => ?_) (hk _ _ (mk_alloc w _))
  have hcs : u.cells = #[u] := by cases u <;> simp_all [Value.oneCell', Value.cells]
  have hcs2 : v.cells = #[v] := by cases v <;> simp_all [Value.oneCell', Value.cells]
  have hr1 : (Array.range 2 : Array Nat) = #[0, 1] := by rfl
  simp [execOp, ho, Instr.buildSlice, hr.ev hx, hr.ev hy, run_und (td_slice (tyD_ok ht)), run_sizeOf hs, run_zeroV hz, hr1, Instr.fill, hcs, hcs2, newRow, newObj, Sem.run]
omit n in
/-- A result of two cells that lies in memory. -/
theorem W.fretC2 {fn : Func} {R : Value → World → Prop} {a t b t' : Nat} {u v : Value} (hres : fn.results = #[.cell a t]) (hl : look ρ a = some (.pointer (some ⟨b, 0, none⟩))) (hs : tyS P t = some 2) (hg : tyAgg P t = some true)
    (hb : Blk w b #[u, v] t') (hR : R (.agg #[u, v]) w) : W P fn.ntmps ds (.code .ret :: k) (Fin P fn R) ρ w := by
  refine W.ret ⟨_, fun act hr => ?_, hR⟩
  have c0 : w.cell? ⟨b, 0, none⟩ = some u := hb.cell (by simp)
  have c1 : w.cell? ⟨b, 1, none⟩ = some v := hb.cell (by simp)
  have e0 : (⟨b, 0, none⟩ : Addr).add 0 = ⟨b, 0, none⟩ := by simp [Addr.add]
  have e1 : (⟨b, 0, none⟩ : Addr).add 1 = ⟨b, 1, none⟩ := by simp [Addr.add]
  have hsl := hr.slot a _ hl
  rw [Array.getD_eq_getD_getElem?] at hsl
  simp [results, hres, hsl, asAddr, loadVar, run_isAgg hg, run_sizeOf hs, loadCells, loadCellsFrom, load, Sem.run, e0, e1, c0, c1]
end
end Go.Proofs.YtcmjlmnfdncajaaGreatDoor.VW
/- Maps from ints to true. -/
namespace Go.Proofs.YtcmjlmnfdncajaaGreatDoor.VW
open Go Go.RowKit
def kvI (k : Int) : Value × Value := (.int .i64 k, .bool true)
/-- Block b is a map in which the numbers of f stand, with true. -/
def MapB (w : World) (b : Nat) (f : Int → Bool) : Prop := ∃ (es : Array MapEntry) (c : Nat) (ks : List Int), w.heap[b]? = some (.map es c) ∧ es.toList.map (fun e => (e.key, e.val)) = ks.map kvI ∧ ∀ k, f k = ks.contains k
theorem MapB.kp {w w' : World} {b : Nat} {f : Int → Bool} {S : Nat → Prop} (h : MapB w b f) (k : Kp S w w') (hs : ¬ S b) : MapB w' b f := by
  obtain ⟨es, c, ks, hb, h1, h2⟩ := h
  exact ⟨es, c, ks, by rw [k.blk b (Array.getElem?_eq_some_iff.1 hb).1 hs]; exact hb, h1, h2⟩
theorem MapB.lt {w : World} {b : Nat} {f : Int → Bool} (h : MapB w b f) : b < w.heap.size := by
  obtain ⟨es, c, ks, hb, h1, h2⟩ := h
  exact (Array.getElem?_eq_some_iff.1 hb).1
theorem findNow_in {x : Int} : ∀ {ks : List Int} {es : List MapEntry} {i : Nat}, es.map (fun e => (e.key, e.val)) = ks.map kvI → ks.contains x = true → ∃ j, i ≤ j ∧ Instr.findNow (.int .i64) (.int .i64 x) es i = some (some (j, .bool true)) ∧ (es[j - i]?).map (·.key) = some (.int .i64 x)
  | [], _, _, _, h => by simp at h
  | k :: ks, [], _, h, _ => by simp at h
  | k :: ks, e :: es, i, h, hx => by
    simp only [List.map_cons, List.cons.injEq, kvI, Prod.mk.injEq] at h
    obtain ⟨⟨hk, hv⟩, h⟩ := h
    simp only [Instr.findNow, hk, hv, Instr.sameNow]
    by_cases e1 : x = k
    · subst e1
      exact ⟨i, Nat.le_refl _, by simp, by simp [hk]⟩
    · have hx' : ks.contains x = true := by simp [e1] at hx; simpa using hx
      obtain ⟨j, h1, h2, h3⟩ := findNow_in (i := i + 1) h hx'
      have e2 : (x == k) = false := by simpa using e1
      refine ⟨j, by omega, by simp only [e2]; exact h2, ?_⟩
      rw [show j - i = (j - (i + 1)) + 1 by omega]
      simpa using h3
theorem findNow_out {x : Int} : ∀ {ks : List Int} {es : List MapEntry} {i : Nat}, es.map (fun e => (e.key, e.val)) = ks.map kvI → ks.contains x = false → Instr.findNow (.int .i64) (.int .i64 x) es i = some none
  | [], [], _, _, _ => rfl
  | [], _ :: _, _, h, _ => by simp at h
  | k :: ks, [], _, h, _ => by simp at h
  | k :: ks, e :: es, i, h, hx => by
    simp only [List.map_cons, List.cons.injEq, kvI, Prod.mk.injEq] at h
    obtain ⟨⟨hk, hv⟩, h⟩ := h
    simp only [Instr.findNow, hk, hv, Instr.sameNow]
    simp only [List.contains_cons, Bool.or_eq_false_iff, beq_eq_false_iff_ne] at hx
    have e2 : (x == k) = false := by simpa using hx.1
    simp only [e2]
    exact findNow_out h hx.2
section
variable {P : Program} [hT : Tab P] {n : Nat} {ds : List Deferred} {Φ : Post} {k : List It} {ρ : E} {w : World} {all : Array Oper} {l : List Oper} {md : Option (List Oper)}
theorem Ops.mkM {o : Oper} {d t : Nat} (ho : o.op = .makeMap t none) (hd : o.dst = some d) (hg : o.guard = none)
    (hk : ∀ w' r, MapB w' r (fun _ => false) → Kp (fun _ => False) w w' → r = w.heap.size → Ops none P n ds all k Φ l ((d, .map (some r)) :: ρ) w') : Ops none P n ds all k Φ (o :: l) ρ w := by
  have hm := mk_alloc w (.map #[] 0)
  refine Ops.val hd hg (fun a hr => ?_) (hk _ _ ⟨#[], 0, [], hm.at_, rfl, fun _ => rfl⟩ hm.kp rfl)
  have hm' : (Instr.makeMap t none).run P w = .ok (.map (some w.heap.size)) (w.alloc (.map #[] 0)) := rfl
  simp [execOp, ho, hm']
theorem run_findKey_int {kt : Nat} {es : List MapEntry} {x : Int} {r : Option (Nat × Value)} (hu : P.underlying kt = some (.int .i64)) (h : Instr.findNow (.int .i64) (.int .i64 x) es 0 = some r) : (Instr.findKey kt (.int .i64 x) es).run P w = .ok r w := by
  simp [Instr.findKey, run_und hu, h]
theorem run_checkKey_int {kt : Nat} {x : Int} {b : Bool} (hu : P.underlying kt = some (.int .i64)) : (Instr.checkKey b 10000 kt (.int .i64 x)).run P w = .ok () w := by
  rw [show (10000 : Nat) = 9999 + 1 from rfl, Instr.checkKey]
  simp [run_und hu]
theorem run_getObj_m {r : Nat} {es : Array MapEntry} {c : Nat} (h : w.heap[r]? = some (.map es c)) : (getObj r).run P w = .ok (.map es c) w := by simp [getObj, Sem.run, h]
theorem run_setObj_m {r : Nat} {es : Array MapEntry} {c : Nat} (o : Obj) (h : w.heap[r]? = some (.map es c)) : (setObj r o).run P w = .ok () { w with heap := w.heap.setIfInBounds r o } := by simp [setObj, Sem.run, h]
theorem run_look {t kt et r : Nat} {x : Int} {f : Int → Bool} (ht : tyD P t = some (.map kt et)) (hk : tyD P kt = some (.int .i64)) (hz : tyZ P et = some (.bool false)) (hm : MapB w r f) : (Instr.lookup t (.map (some r)) (.int .i64 x) false).run P w = .ok (.bool (f x)) w := by
  obtain ⟨es, c, ks, hb, h1, h2⟩ := hm
  have hu := td_map (tyD_ok ht)
  have huk := td_int (tyD_ok hk)
  cases hf : ks.contains x with
  | true =>
    obtain ⟨j, _, h3, _⟩ := findNow_in (i := 0) h1 hf
    simp [Instr.lookup, run_und hu, run_getObj_m hb, run_checkKey_int huk, run_findKey_int huk h3, h2 x, by simpa using hf]
  | false =>
    have h3 := findNow_out (i := 0) h1 hf
    simp [Instr.lookup, run_und hu, run_getObj_m hb, run_checkKey_int huk, run_findKey_int huk h3, run_zeroV hz, h2 x, by simpa using hf]
/-- m[x] -/
theorem Ops.look {o : Oper} {d t kt et r : Nat} {x y : Operand} {i : Int} {f : Int → Bool} (ho : o.op = .lookup t x y false) (hd : o.dst = some d) (hg : o.guard = none)
    (ht : tyD P t = some (.map kt et)) (hkt : tyD P kt = some (.int .i64)) (hz : tyZ P et = some (.bool false)) (hx : ev ρ x = some (.map (some r))) (hy : ev ρ y = some (.int .i64 i)) (hm : MapB w r f)
    (hk : Ops md P n ds all k Φ l ((d, .bool (f i)) :: ρ) w) : Ops md P n ds all k Φ (o :: l) ρ w := by
  refine Ops.valS hd hg (fun a hr => ?_) hk
  simp [execOp, ho, hr.ev hx, hr.ev hy, run_look ht hkt hz hm]
theorem kp_setObj (r : Nat) (o : Obj) : Kp (fun i => i = r) w { w with heap := w.heap.setIfInBounds r o } :=
  ⟨rfl, rfl, rfl, by simp, fun i hi hn => by simp [Array.getElem?_setIfInBounds_ne (Ne.symm hn)]⟩
theorem run_stay {x : Int} : (Instr.keyThatStays (.int .i64 x) (.int .i64 x)).run P w = .ok (.int .i64 x) w := by
  unfold Instr.keyThatStays
  rw [if_pos (by rw [show (10000 : Nat) = 9999 + 1 from rfl, Instr.sameBits]; simp)]
  rfl
theorem run_put {t kt et r : Nat} {x : Int} {f : Int → Bool} (ht : tyD P t = some (.map kt et)) (hk : tyD P kt = some (.int .i64)) (hm : MapB w r f) :
    ∃ w', (Instr.mapUpdate t (.map (some r)) (.int .i64 x) (.bool true)).run P w = .ok () w' ∧ MapB w' r (fun k => f k || k == x) ∧ Kp (fun i => i = r) w w' ∧ w'.heap.size = w.heap.size := by
  obtain ⟨es, c, ks, hb, h1, h2⟩ := hm
  have hu := td_map (tyD_ok ht)
  have huk := td_int (tyD_ok hk)
  have hlt := (Array.getElem?_eq_some_iff.1 hb).1
  cases hf : ks.contains x with
  | true =>
    obtain ⟨j, _, h3, h4⟩ := findNow_in (i := 0) h1 hf
    rw [Nat.sub_zero, Array.getElem?_toList] at h4
    refine ⟨_, ?_, ?_, kp_setObj r (.map (es.modify j fun e => { e with key := .int .i64 x, val := .bool true }) c), by simp⟩
    · simp [Instr.mapUpdate, run_und hu, run_getObj_m hb, run_checkKey_int huk, run_findKey_int huk h3]
      rw [h4]
      simp [run_stay, run_setObj_m _ hb]
    · refine ⟨es.modify j fun e => { e with key := .int .i64 x, val := .bool true }, c, ks, by simp [hlt], ?_, fun k => ?_⟩
      · rw [← h1]
        apply List.ext_getElem?
        intro i
        simp only [List.getElem?_map, Array.getElem?_toList, Array.getElem?_modify]
        split
        · rename_i e
          subst e
          obtain ⟨hj1, hj2⟩ : ∃ e, es[j]? = some e ∧ e.key = .int .i64 x := by
            cases he : es[j]? with
            | none => rw [he] at h4; simp at h4
            | some e => rw [he] at h4; simp at h4; exact ⟨e, rfl, h4⟩
          have hv : (es.toList.map fun e => (e.key, e.val))[j]? = (ks.map kvI)[j]? := by rw [h1]
          simp only [List.getElem?_map, Array.getElem?_toList, hj2.1, Option.map_some] at hv
          rw [hj2.1]
          simp only [Option.map_some, Option.some.injEq]
          cases hq : ks[j]? with
          | none => rw [hq] at hv; simp at hv
          | some q => rw [hq] at hv; simp [kvI] at hv; rw [hj2.2, hv.2]
        · rfl
      · show (f k || k == x) = _
        rw [h2 k]
        by_cases e : k = x
        · subst e; simp [hf]; simpa using hf
        · simp [e]
  | false =>
    have h3 := findNow_out (i := 0) h1 hf
    refine ⟨_, ?_, ?_, kp_setObj r (.map (es.push { key := .int .i64 x, val := .bool true, born := c }) (c + 1)), by simp⟩
    · simp [Instr.mapUpdate, run_und hu, run_getObj_m hb, run_checkKey_int huk, run_findKey_int huk h3, run_setObj_m _ hb]
    · refine ⟨es.push { key := .int .i64 x, val := .bool true, born := c }, c + 1, ks ++ [x], by simp [hlt], by simp [h1, kvI], fun k => ?_⟩
      show (f k || k == x) = _
      rw [h2 k]
      simp [Bool.beq_eq_decide_eq]
/-- m[x] = true -/
theorem Ops.put {o : Oper} {t kt et r : Nat} {x y z : Operand} {i : Int} {f : Int → Bool} (ho : o.op = .mapUpdate t x y z) (hd : o.dst = none) (hg : o.guard = none)
    (ht : tyD P t = some (.map kt et)) (hkt : tyD P kt = some (.int .i64)) (hx : ev ρ x = some (.map (some r))) (hy : ev ρ y = some (.int .i64 i)) (hz : ev ρ z = some (.bool true)) (hm : MapB w r f)
    (hk : ∀ w', MapB w' r (fun k => f k || k == i) → Kp (fun i => i = r) w w' → w'.heap.size = w.heap.size → Ops none P n ds all k Φ l ρ w') : Ops none P n ds all k Φ (o :: l) ρ w := by
  obtain ⟨w', hrun, h1, h2, h3⟩ := run_put (x := i) ht hkt hm
  refine Ops.unit hg hd (fun a hr => ?_) (hk w' h1 h2 h3)
  simp [execOp, ho, hr.ev hx, hr.ev hy, hr.ev hz, hrun]
/-- A field of one cell of a struct that is no variable. -/
def plainField (P : Program) (t i : Nat) : Option Nat := match P.underlying t with
  | some (.struct gs) => match gs[i]? with
    | some f => match P.underlying f.type with
      | some (.struct _) => none
      | some (.array _ _) => none
      | some _ => some f.offset
      | none => none
    | none => none
  | _ => none
omit hT in
theorem run_field {t i off : Nat} {cs : Array Value} {v : Value} (h : plainField P t i = some off) (hv : cs[off]? = some v) : (Instr.field t (.agg cs) i).run P w = .ok v w := by
  unfold plainField at h
  cases hu : P.underlying t with
  | none => rw [hu] at h; simp at h
  | some d =>
    rw [hu] at h
    cases d with
    | struct gs =>
      simp only at h
      cases hf : gs[i]? with
      | none => rw [hf] at h; simp at h
      | some f =>
        rw [hf] at h
        simp only at h
        have hi : (isAgg f.type).run P w = .ok false w ∧ f.offset = off := by
          cases hu2 : P.underlying f.type with
          | none => rw [hu2] at h; simp at h
          | some d2 => rw [hu2] at h; cases d2 <;> simp at h <;> exact ⟨by simp [isAgg, underlying, hu2], h⟩
        simp [Instr.field, run_und hu, hf, asAgg, part, hi.1, hi.2, hv]
    | _ => simp at h
theorem Ops.fieldV {o : Oper} {d t i off : Nat} {x : Operand} {cs : Array Value} {v : Value} (ho : o.op = .field t x i) (hd : o.dst = some d) (hg : o.guard = none)
    (ht : plainField P t i = some off) (hx : ev ρ x = some (.agg cs)) (hv : nth cs.toList off = some v) (hk : Ops md P n ds all k Φ l ((d, v) :: ρ) w) : Ops md P n ds all k Φ (o :: l) ρ w := by
  refine Ops.valS hd hg (fun a hr => ?_) hk
  rw [nth_eq, Array.getElem?_toList] at hv
  simp [execOp, ho, hr.ev hx, run_field ht hv]
omit hT in
theorem W.label {i : Nat} (h : W P n ds k Φ ρ w) : W P n ds (.code (.label i) :: k) Φ ρ w := fun _ _ hr hd => wp_label ⟨ρ, hr, LiftD.mk hd h⟩
omit hT in
theorem Qof.goto_no (hΦ : ∀ l ρ w, ¬ Φ (.goto l) ρ w) : ∀ (k : List It) i ρ w, ¬ Qof P n ds Φ k (.goto i) ρ w := by
  intro k
  induction k with
  | nil => exact hΦ
  | cons x r ih => cases x <;> exact ih
omit hT in
/-- A scope in which nothing jumps. -/
theorem W.scope {c : Code} (hΦ : ∀ l ρ w, ¬ Φ (.goto l) ρ w) (h : W P n ds (.code c :: k) Φ ρ w) : W P n ds (.code (.scope c) :: k) Φ ρ w := by
  intro hi a hr hd
  refine wp_scope_straight (wp_mono (h (by simpa [inB] using hi) a hr hd) fun e a w hl => ?_)
  obtain ⟨ρ', hr', hl⟩ := hl
  cases e with
  | goto i => exact absurd hl.2 (Qof.goto_no hΦ k i ρ' w)
  | _ => exact ⟨ρ', hr', hl⟩
end
end Go.Proofs.YtcmjlmnfdncajaaGreatDoor.VW
/- Literals of any shape. -/
namespace Go.Proofs.YtcmjlmnfdncajaaGreatDoor.VW
open Go Go.RowKit
def evP (ρ : E) : List (Nat × Operand) → Option (List (Nat × Value))
  | [] => some []
  | (i, x) :: r => match ev ρ x, evP ρ r with
    | some v, some vs => some ((i, v) :: vs)
    | _, _ => none
theorem evP_map {n : Nat} {a : Act} {ρ : E} (h : Rep n a ρ) : ∀ {l : List (Nat × Operand)} {vs : List (Nat × Value)}, evP ρ l = some vs → l.map (fun p => (p.1, a.eval p.2)) = vs
  | [], vs, e => by simp [evP] at e; simp [e]
  | (i, x) :: r, vs, e => by
    simp only [evP] at e
    split at e
    · rename_i v us h1 h2
      simp at e
      subst e
      simp [h.ev h1, evP_map h h2]
    · simp at e
section
variable {P : Program} [hT : Tab P] {n : Nat} {ds : List Deferred} {Φ : Post} {k : List It} {ρ : E} {w : World} {all : Array Oper} {l : List Oper} {md : Option (List Oper)}
/-- A struct's literal: two fields of one cell each. -/
theorem Ops.bldG {o : Oper} {d t : Nat} {parts : Array (Nat × Operand)} {vs : List (Nat × Value)} {z : Value} {cs : Array Value} (ho : o.op = .build t parts) (hd : o.dst = some d) (hg : o.guard = none)
    (ht : tyD P t = some (.struct [(0, 1), (1, 1)])) (hz : tyZ P t = some z) (hp : evP ρ parts.toList = some vs) (hf : Instr.fill (fun i => [((0 : Nat), (1 : Nat)), (1, 1)][i]?) z.cells vs = some cs)
    (hk : Ops md P n ds all k Φ l ((d, .agg cs) :: ρ) w) : Ops md P n ds all k Φ (o :: l) ρ w := by
  refine Ops.valS hd hg (fun a hr => ?_) hk
  obtain ⟨gs, hu, hm⟩ := td_struct (tyD_ok ht)
  have hsz : ∃ f g, gs = #[f, g] ∧ f.offset = 0 ∧ g.offset = 1 ∧ ((P.info? f.type).map (·.size)).getD 0 = 1 ∧ ((P.info? g.type).map (·.size)).getD 0 = 1 := by
    obtain ⟨L⟩ := gs
    rcases L with _ | ⟨f, _ | ⟨g, _ | ⟨h, r⟩⟩⟩
    · simp at hm
    · simp at hm
    · simp at hm; exact ⟨f, g, rfl, hm.1.1, hm.2.1, hm.1.2, hm.2.2⟩
    · simp at hm
  obtain ⟨f, g, rfl, hf0, hg1, hfs, hgs⟩ := hsz
  have q1 : ∃ i, P.info? f.type = some i ∧ i.size = 1 := by
    cases hi : P.info? f.type with
    | none => rw [hi] at hfs; simp at hfs
    | some i => rw [hi] at hfs; exact ⟨i, rfl, by simpa using hfs⟩
  have q2 : ∃ i, P.info? g.type = some i ∧ i.size = 1 := by
    cases hi : P.info? g.type with
    | none => rw [hi] at hgs; simp at hgs
    | some i => rw [hi] at hgs; exact ⟨i, rfl, by simpa using hgs⟩
  obtain ⟨i1, e1, s1⟩ := q1
  obtain ⟨i2, e2, s2⟩ := q2
  have hpm : (parts.map fun (i, x) => (i, a.eval x)).toList = vs := by rw [Array.toList_map]; exact evP_map hr hp
  have hb : (Instr.build t (parts.map fun (i, x) => (i, a.eval x))).run P w = .ok (.agg cs) w := by
    generalize (parts.map fun (i, x) => (i, a.eval x)) = ps at *
    subst hpm
    simp [Instr.build, run_zeroV hz, run_und hu, sizeOf, typeInfo, e1, e2, s1, s2, hf0, hg1, hf]
  simp [execOp, ho, hb]
/-- A slice's literal. -/
theorem Ops.bsG {o : Oper} {d t e sz m : Nat} {parts : Array (Nat × Operand)} {vs : List (Nat × Value)} {z : Value} {cs : Array Value} (ho : o.op = .buildSlice t m parts) (hd : o.dst = some d) (hg : o.guard = none)
    (ht : tyD P t = some (.slice e)) (hs : tyS P e = some sz) (hz : tyZ P e = some z) (hp : evP ρ parts.toList = some vs) (h0 : Nat.blt 0 (m * sz) = true) (h1 : Nat.ble (m * sz) 1000 = true)
    (hf : Instr.fill (fun i => some (i * sz, sz)) ((Array.range (m * sz)).map (fun q => z.cells[q % z.cells.size]!)) vs = some cs)
    (hk : ∀ w' r, Mk w w' r (.cells cs e) → Ops none P n ds all k Φ l ((d, .slice (some ⟨r, 0, none⟩) m m) :: ρ) w') : Ops none P n ds all k Φ (o :: l) ρ w := by
  refine Ops.val hd hg (fun a hr => ?_) (hk _ _ (mk_alloc w _))
  have h0' : 0 < m * sz := by simpa using h0
  have h1' : m * sz ≤ 1000 := by simpa using h1
  have hpm : (parts.map fun (i, x) => (i, a.eval x)).toList = vs := by rw [Array.toList_map]; exact evP_map hr hp
  have hb : (Instr.buildSlice t m (parts.map fun (i, x) => (i, a.eval x))).run P w = .ok (.slice (some ⟨w.heap.size, 0, none⟩) m m) (w.alloc (.cells cs e)) := by
    generalize (parts.map fun (i, x) => (i, a.eval x)) = ps at *
    subst hpm
    have hne : ¬ (m = 0 ∨ sz = 0) := by rintro (h | h) <;> subst h <;> simp at h0'
    simp [Instr.buildSlice, run_und (td_slice (tyD_ok ht)), run_sizeOf hs, run_zeroV hz, hf, newRow, newObj, Sem.run, hne, show ¬ (16777216 < m * sz) by omega]
    intro h
    omega
  simp [execOp, ho, hb]
end
end Go.Proofs.YtcmjlmnfdncajaaGreatDoor.VW
/- Conversions of ints; rests of other kinds; appends of structs. -/
namespace Go.Proofs.YtcmjlmnfdncajaaGreatDoor.VW
open Go Go.RowKit
section
variable {P : Program} [hT : Tab P] {n : Nat} {ds : List Deferred} {Φ : Post} {k : List It} {ρ : E} {w : World} {all : Array Oper} {l : List Oper} {md : Option (List Oper)}
theorem Ops.cv {o : Oper} {d s t : Nat} {x : Operand} {k1 k2 : IntKind} {v : Int} (ho : o.op = .convert s t x) (hd : o.dst = some d) (hg : o.guard = none)
    (h1 : tyD P s = some (.int k1)) (h2 : tyD P t = some (.int k2)) (hx : ev ρ x = some (.int k1 v)) (hk : Ops md P n ds all k Φ l ((d, .int k2 (k2.wrap v)) :: ρ) w) : Ops md P n ds all k Φ (o :: l) ρ w := by
  refine Ops.valS hd hg (fun a hr => ?_) hk
  have hu1 := td_int (tyD_ok h1)
  have hu2 := td_int (tyD_ok h2)
  have hi : P.intKind t = k2 := by simp [Program.intKind, hu2]
  have := run_convert_int (P := P) (w := w) s t k1 v (by simp [hu1]) (by rw [hi]; exact hu2)
  simp only [execOp, ho, hr.ev hx]
  simp [this, hi]
theorem Ops.remK {o : Oper} {kd : IntKind} {u v : Int} {d t t' : Nat} {x y : Operand} (ho : o.op = .binOp .rem t x y t') (hd : o.dst = some d) (hg : o.guard = none) (hx : ev ρ x = some (.int kd u)) (hy : ev ρ y = some (.int kd v)) (hv : v ≠ 0)
    (hk : Ops md P n ds all k Φ l ((d, .int kd (u.tmod v)) :: ρ) w) : Ops md P n ds all k Φ (o :: l) ρ w := by
  refine Ops.valS hd hg (fun a hr => ?_) hk
  simp only [execOp, ho, hr.ev hx, hr.ev hy]
  simp [eqGuard, binOp, Op.intDiv, hv, go_sem]
/-- s = append(s, x): an element of two cells. -/
theorem Ops.push2 {o1 o2 : Oper} {d1 d2 t e by' nn : Nat} {x y : Operand} {a b lv z0 z1 : Value} {xs : List Value}
    (h1 : o1.op = .buildSlice t 1 #[(0, x)]) (hd1 : o1.dst = some d1) (hg1 : o1.guard = none) (h2 : o2.op = .call { callee := .builtin .append, args := #[y, .tmp d1], argTypes := #[t, t] }) (hd2 : o2.dst = some d2) (hg2 : o2.guard = none)
    (ht : tyD P t = some (.slice e)) (hs : tyS P e = some 2) (hb : tyB P e = some (by' + 1)) (hz : tyZ P e = some (.agg #[z0, z1])) (hx : ev ρ x = some (.agg #[a, b])) (hy : ∀ p, ev ((d1, p) :: ρ) y = some lv) (ha : a.oneCell' = true) (hb1 : b.oneCell' = true)
    (hown : w.ownsRow 0 e 2 lv nn xs) (hbytes : (nn + 1) * (by' + 1) ≤ 140737488355328)
    (hk : ∀ lv' p w', w'.ownsRow 0 e 2 lv' (nn + 1) (xs ++ [a, b]) → Kp (fun i => lv.ownBlock = some i) w w' → (∀ i, lv'.ownBlock = some i → lv.ownBlock = some i ∨ w.heap.size ≤ i) → Ops none P n ds all k Φ l ((d2, lv') :: (d1, p) :: ρ) w') : Ops none P n ds all k Φ (o1 :: o2 :: l) ρ w := by
  have hr2 : Array.range 2 = #[0, 1] := rfl
  refine Ops.bsG (cs := #[a, b]) h1 hd1 hg1 ht hs hz (vs := [(0, .agg #[a, b])]) (by simp [evP, hx]) rfl rfl (by simp [Instr.fill, Value.cells, hr2]) (fun w1 r hM => ?_)
  have hB : Blk w1 r #[a, b] e := hM.at_
  refine Ops.app (sz := 1) (news := [a, b]) (m := 1) (A := ⟨r, 0, none⟩) (c := 1) h2 hd2 hg2 ht hs hb hz rfl (hy _) (ev_top _ _ _) (own_kp hown hM.kp (fun _ _ e => e)) rfl ?_ (by simp [ha, hb1]) hbytes (fun v' w' ho hk' hn => hk v' _ w' ho ?_ ?_)
  · intro j u hu
    rw [add_lit, Nat.zero_add]
    exact hB.cell (by simpa using hu)
  · exact (hM.kp.trans hk').mono (fun i _ e => by rcases e with e | e; exact e.elim; exact e)
  · intro i hi
    rcases hn i hi with h | h
    · exact .inl h
    · right; have := hM.size; omega
end
end Go.Proofs.YtcmjlmnfdncajaaGreatDoor.VW
/- Guards decided by proof; s[lo:]. -/
namespace Go.Proofs.YtcmjlmnfdncajaaGreatDoor.VW
open Go Go.RowKit
section
variable {P : Program} [hT : Tab P] {n : Nat} {ds : List Deferred} {Φ : Post} {k : List It} {ρ : E} {w : World} {all : Array Oper} {l : List Oper} {md : Option (List Oper)}
omit hT in
theorem Ops.yesB {o : Oper} {j : Nat} {want b : Bool} {d d' : Nat} (hdst : o.dst = some d') (hg : o.guard = some (j, want)) (hj : (all[j]?).bind (·.dst) = some d) (hv : VW.look ρ d = some (.bool b)) (hb : b = want)
    (h : Ops md P n ds all k Φ ({ o with guard := none } :: l) ((d, .bool want) :: ρ) w) : Ops md P n ds all k Φ (o :: l) ρ w := Ops.gd hdst hg hj hv (fun _ => h) (fun e => by rw [hb] at e; cases want <;> simp at e)
omit hT in
theorem Ops.noB {o : Oper} {j : Nat} {want b : Bool} {d d' : Nat} (hdst : o.dst = some d') (hg : o.guard = some (j, want)) (hj : (all[j]?).bind (·.dst) = some d) (hv : VW.look ρ d = some (.bool b)) (hb : b = !want)
    (h : Ops md P n ds all k Φ l ((d', undef) :: (d, .bool (!want)) :: ρ) w) : Ops md P n ds all k Φ (o :: l) ρ w := Ops.gd hdst hg hj hv (fun e => by rw [hb] at e; cases want <;> simp at e) (fun _ => h)
/-- s[lo:] -/
theorem Ops.slL {o : Oper} {d t e sz m c : Nat} {x y : Operand} {A : Option Addr} {h : Int} (ho : o.op = .slice t x (some y) none none) (hd : o.dst = some d) (hg : o.guard = none)
    (ht : tyD P t = some (.slice e)) (hs : tyS P e = some sz) (hx : ev ρ x = some (.slice A m c)) (hy : ev ρ y = some (.int .i64 h)) (h0 : 0 ≤ h) (h1 : h ≤ m) (hmc : m ≤ c) (hk : ∀ A' c', (h.toNat < m → A' = A.map fun p => p.add (h.toNat * sz)) → Ops md P n ds all k Φ l ((d, .slice A' (m - h.toNat) c') :: ρ) w) : Ops md P n ds all k Φ (o :: l) ρ w := by
  obtain ⟨q, rfl⟩ := Int.eq_ofNat_of_zero_le h0
  have hq : q ≤ m := by omega
  refine Ops.valS hd hg (fun a hr => ?_) (hk (if c = q then A else A.map fun p => p.add (q * sz)) (c - q) (fun hlt => by rw [if_neg]; rfl; simp at hlt; omega))
  simp [execOp, ho, hr.ev hx, hr.ev hy, Instr.sliceAt, Instr.slice, Instr.sliceBounds, Instr.sliceBound, asIntOf, run_und (td_slice (tyD_ok ht)), run_sizeOf hs, hq]
theorem own_cap {e sz m c : Nat} {A : Option Addr} {xs : List Value} {k : Nat} (h : w.ownsRow 0 e sz (.slice A k c) m xs) : k ≤ c := by
  rcases h.2 with ⟨h, _⟩ | ⟨g, cap, cur, h, _, _, hnc, _⟩
  · simp at h; omega
  · simp at h; omega
theorem sl_drop {α : Type} {enc : α → Value} {z : α} {A A' : Option Addr} {c c' h : Nat} {xs : List α} (hs : Sl enc z w (.slice A xs.length c) xs) (ha : h < xs.length → A' = A.map fun p => p.add (h * 1)) : Sl enc z w (.slice A' (xs.length - h) c') (xs.drop h) := by
  obtain ⟨hm, A2, c2, he, hc⟩ := hs
  simp only [Value.slice.injEq, true_and] at he
  obtain ⟨rfl, rfl⟩ := he
  refine ⟨by rw [List.length_drop]; omega, A', c', by rw [List.length_drop], fun hp => ?_⟩
  rw [List.length_drop] at hp
  obtain ⟨a, rfl, h2⟩ := hc (by omega)
  refine ⟨a.add h, by rw [ha (by omega)]; simp, fun j hj => ?_⟩
  rw [List.length_drop] at hj
  have := h2 (h + j) (by omega)
  rw [show (a.add h).add j = a.add (h + j) by by_cases h0 : h = 0 <;> by_cases j0 : j = 0 <;> simp [Addr.add, h0, j0, Nat.add_assoc], this]
  simp [List.getD_eq_getElem?_getD]
end
end Go.Proofs.YtcmjlmnfdncajaaGreatDoor.VW
/- Drawn regions with guards. -/
namespace Go.Proofs.YtcmjlmnfdncajaaGreatDoor.VW
open Go Go.RowKit
section
variable {P : Program} [hT : Tab P] {n : Nat} {ds : List Deferred} {Φ : Post} {k : List It} {ρ : E} {w : World} {all : Array Oper} {l : List Oper} {md : Option (List Oper)} {s : Nat} {F : World → Prop} {π : List (Nat × Nat)} {L : List Bool}
omit hT in
theorem Ord.takeY {i d : Nat} {o : Oper} {v : Value} (ho : all[i]? = some o) (hd : o.dst = some d) (hΦ : ∀ c ρ w, (Φ (.panic c) ρ w → Φ (.panic c) [] w)) (hy : ∀ a, Rep n a ρ → YieldsIf P all (fun _ => True) o v a)
    (h : Ord P n ds all k Φ s F π (L.set i true) ((d, v) :: ρ) w) : Ord P n ds all k Φ s F ((i, 1) :: π) L ρ w := by
  intro hc hs hdo hcl hS a hr hds
  simp only [chk, Bool.and_eq_true, bne_iff_ne] at hc
  have hdn : dOk n o.dst = true := by
    rw [List.all_eq_true] at hdo
    exact hdo o (by rw [← Array.getElem?_toList] at ho; exact List.mem_of_getElem? ho)
  refine wpAnyI_take ho hs hc.1.1.1 hc.1.1.2 (fun c a w hq => lift_pan hΦ hq) (SF.inv hc.1.2) (fun _ _ _ _ _ => trivial) hcl (hy a hr) hS ?_
  have := h hc.2 hs hdo (by rw [← List.setIfInBounds_toArray]; exact hcl.set (by simpa using hc.1.1.2)) (by rw [← List.setIfInBounds_toArray]; exact (SF.inv hc.1.2 _ _).2 hS) (a.put o.dst v) (by have := hr.put hdn v; rw [hd] at this ⊢; exact this) (by rw [hd]; exact hds)
  rw [List.setIfInBounds_toArray]
  exact this
omit hT in
/-- A guarded operation that does not run. -/
theorem Ord.takeNo {i d j g : Nat} {want b : Bool} {o : Oper} (ho : all[i]? = some o) (hd : o.dst = some d) (hg : o.guard = some (j, want)) (hj : (all[j]?).bind (·.dst) = some g) (hv : VW.look ρ g = some (.bool b)) (hb : b = !want) (hΦ : ∀ c ρ w, (Φ (.panic c) ρ w → Φ (.panic c) [] w))
    (h : Ord P n ds all k Φ s F π (L.set i true) ((d, undef) :: ρ) w) : Ord P n ds all k Φ s F ((i, 1) :: π) L ρ w :=
  Ord.takeY ho hd hΦ (fun a hr => .inr ⟨by simp [Region.wanted, hg, yielded_of hr hj hv, hb], rfl⟩) h
omit hT in
/-- A guarded operation that runs. -/
theorem Ord.takeYes {i d j g : Nat} {want b : Bool} {o : Oper} {v : Value} (ho : all[i]? = some o) (hd : o.dst = some d) (hg : o.guard = some (j, want)) (hj : (all[j]?).bind (·.dst) = some g) (hv : VW.look ρ g = some (.bool b)) (hb : b = want) (hΦ : ∀ c ρ w, (Φ (.panic c) ρ w → Φ (.panic c) [] w)) (hev : ∀ w', EV P n ρ w' o v)
    (h : Ord P n ds all k Φ s F π (L.set i true) ((d, v) :: ρ) w) : Ord P n ds all k Φ s F ((i, 1) :: π) L ρ w :=
  Ord.takeY ho hd hΦ (fun a hr => .inl ⟨by simp [Region.wanted, hg, yielded_of hr hj hv, hb], fun w' _ => hev w' a hr⟩) h
omit hT in
theorem Ord.readY {i d : Nat} {o : Oper} {v : Value} (ho : all[i]? = some o) (hd : o.dst = some d) (hΦ : ∀ c ρ w, (Φ (.panic c) ρ w → Φ (.panic c) [] w)) (hy : ∀ a, Rep n a ρ → YieldsIf P all F o v a)
    (h : Ord P n ds all k Φ s F π (L.set i true) ((d, v) :: ρ) w) : Ord P n ds all k Φ s F ((i, 2) :: π) L ρ w := by
  intro hc hs hdo hcl hS a hr hds
  simp only [chk, Bool.and_eq_true, bne_iff_ne] at hc
  have hdn : dOk n o.dst = true := by
    rw [List.all_eq_true] at hdo
    exact hdo o (by rw [← Array.getElem?_toList] at ho; exact List.mem_of_getElem? ho)
  have hG : ∀ (L : Array Bool) w, Cl .any all L → L.getD i true = false → SF all s F L w → F w := fun L w hcl hLi hSF => hSF (by
    cases hos : all[s]? with
    | none => rfl
    | some os =>
      cases hb : L.getD s false with
      | false => rfl
      | true =>
        have hw := hc.1.2
        unfold waitsB at hw
        rw [hos] at hw
        simp only [Array.any_eq_true', Bool.and_eq_true, beq_iff_eq] at hw
        obtain ⟨e, he, hb1, hb2⟩ := hw
        have := hcl s os hos hb e he hb1
        rw [hb2] at this
        rw [Array.getD_eq_getD_getElem?] at this hLi
        cases hx : L[i]? with
        | none => rw [hx] at this; simp at this
        | some b => rw [hx] at this hLi; simp at this hLi; rw [this] at hLi; cases hLi)
  refine wpAnyI_take ho hs hc.1.1.1.1 hc.1.1.1.2 (fun c a w hq => lift_pan hΦ hq) (SF.inv hc.1.1.2) hG hcl (hy a hr) hS ?_
  have := h hc.2 hs hdo (by rw [← List.setIfInBounds_toArray]; exact hcl.set (by simpa using hc.1.1.1.2)) (by rw [← List.setIfInBounds_toArray]; exact (SF.inv hc.1.1.2 _ _).2 hS) (a.put o.dst v) (by have := hr.put hdn v; rw [hd] at this ⊢; exact this) (by rw [hd]; exact hds)
  rw [List.setIfInBounds_toArray]
  exact this
omit hT in
/-- A guarded read that runs. -/
theorem Ord.readYes {i d j g : Nat} {want b : Bool} {o : Oper} {v : Value} (ho : all[i]? = some o) (hd : o.dst = some d) (hg : o.guard = some (j, want)) (hj : (all[j]?).bind (·.dst) = some g) (hv : VW.look ρ g = some (.bool b)) (hb : b = want) (hΦ : ∀ c ρ w, (Φ (.panic c) ρ w → Φ (.panic c) [] w)) (hev : ∀ w', F w' → EV P n ρ w' o v)
    (h : Ord P n ds all k Φ s F π (L.set i true) ((d, v) :: ρ) w) : Ord P n ds all k Φ s F ((i, 2) :: π) L ρ w :=
  Ord.readY ho hd hΦ (fun a hr => .inl ⟨by simp [Region.wanted, hg, yielded_of hr hj hv, hb], fun w' hF => hev w' hF a hr⟩) h
omit hT in
theorem yielded_un {a : Act} (hr : Rep n a ρ) {j d : Nat} (hj : (all[j]?).bind (·.dst) = some d) (hv : VW.look ρ d = some undef) : yielded all a.tmps j = none := by
  have h := hr.slot d _ hv
  rw [Array.getD_eq_getD_getElem?] at h
  simp only [yielded, hj, Option.bind_some]
  cases hx : a.tmps[d]? with
  | none => rfl
  | some v => rw [hx] at h; simp at h; rw [h]; rfl
omit hT in
/-- A guard that did not run itself. -/
theorem Ord.takeNu {i d j g : Nat} {want : Bool} {o : Oper} (ho : all[i]? = some o) (hd : o.dst = some d) (hg : o.guard = some (j, want)) (hj : (all[j]?).bind (·.dst) = some g) (hv : VW.look ρ g = some undef) (hΦ : ∀ c ρ w, (Φ (.panic c) ρ w → Φ (.panic c) [] w))
    (h : Ord P n ds all k Φ s F π (L.set i true) ((d, undef) :: ρ) w) : Ord P n ds all k Φ s F ((i, 1) :: π) L ρ w :=
  Ord.takeY ho hd hΦ (fun a hr => .inr ⟨by simp [Region.wanted, hg, yielded_un hr hj hv], rfl⟩) h
omit hT in
theorem Ord.readNo {i d j g : Nat} {want b : Bool} {o : Oper} (ho : all[i]? = some o) (hd : o.dst = some d) (hg : o.guard = some (j, want)) (hj : (all[j]?).bind (·.dst) = some g) (hv : VW.look ρ g = some (.bool b)) (hb : b = !want) (hΦ : ∀ c ρ w, (Φ (.panic c) ρ w → Φ (.panic c) [] w))
    (h : Ord P n ds all k Φ s F π (L.set i true) ((d, undef) :: ρ) w) : Ord P n ds all k Φ s F ((i, 2) :: π) L ρ w :=
  Ord.readY ho hd hΦ (fun a hr => .inr ⟨by simp [Region.wanted, hg, yielded_of hr hj hv, hb], rfl⟩) h
omit hT in
theorem Ord.readNu {i d j g : Nat} {want : Bool} {o : Oper} (ho : all[i]? = some o) (hd : o.dst = some d) (hg : o.guard = some (j, want)) (hj : (all[j]?).bind (·.dst) = some g) (hv : VW.look ρ g = some undef) (hΦ : ∀ c ρ w, (Φ (.panic c) ρ w → Φ (.panic c) [] w))
    (h : Ord P n ds all k Φ s F π (L.set i true) ((d, undef) :: ρ) w) : Ord P n ds all k Φ s F ((i, 2) :: π) L ρ w :=
  Ord.readY ho hd hΦ (fun a hr => .inr ⟨by simp [Region.wanted, hg, yielded_un hr hj hv], rfl⟩) h
end
end Go.Proofs.YtcmjlmnfdncajaaGreatDoor.VW
/- Drawn regions with calls that only make memory: worlds known by what stands in them. -/
namespace Go.Proofs.YtcmjlmnfdncajaaGreatDoor.VW
open Go Go.RowKit
/-- At whatever world that F tells of: value v, and F again. -/
def YA (P : Program) (ops : Array Oper) (F : World → Prop) (o : Oper) (v : Value) (a : Act) : Prop :=
  (Region.wanted o (yielded ops a.tmps) = true ∧ ∀ w, F w → (execOp a.eval o).run P w = .ok (.value v) w ∨ ∃ f args, (execOp a.eval o).run P w = .ok (.enter f args) w ∧ Calls P f args w (fun e w' => e = .returned v ∧ F w')) ∨
  (Region.wanted o (yielded ops a.tmps) = false ∧ v = undef)
def wpA (P : Program) (ops : Array Oper) (Q : Exit → Act → World → Prop) (F : World → Prop) (s : Nat) : Nat → Array Bool → Act → Prop
  | 0, L, a => Region.ready .any ops L = [] ∧ ∀ w, F w → Q .normal a w
  | fuel + 1, L, a => (Region.ready .any ops L = [] → ∀ w, F w → Q .normal a w) ∧ ∀ i ∈ Region.ready .any ops L,
    (i ≠ s ∧ ∀ o, ops[i]? = some o → ∃ v, YA P ops F o v a ∧ wpA P ops Q F s fuel (L.setIfInBounds i true) (a.put o.dst v)) ∨
    (i = s ∧ ∀ w, F w → wpOp P ops Q i (wpAny P .any ops Q fuel (L.setIfInBounds i true)) a w)
section
variable {P : Program} {ops : Array Oper} {Q : Exit → Act → World → Prop} {F : World → Prop} {s : Nat}
theorem YA.wpOp {i : Nat} {o : Oper} {v : Value} {a : Act} (hi : ops[i]? = some o) (hy : YA P ops F o v a) {K : Act → World → Prop} {w : World} (hF : F w) (h : ∀ w', F w' → K (a.put o.dst v) w') : wpOp P ops Q i K a w := by
  unfold Go.wpOp
  simp only [hi]
  rcases hy with ⟨hw, hv⟩ | ⟨hw, rfl⟩
  · simp only [hw, if_true]
    refine .inl ?_
    unfold Oper.wp
    rcases hv w hF with hv | ⟨f, args, hv, hc⟩
    · rw [hv]; exact h w hF
    · rw [hv]
      refine hc.mono fun e w' ⟨he, hF'⟩ => ?_
      subst he
      exact h w' hF'
  · simp only [hw, Bool.false_eq_true, if_false]; exact h w hF
theorem YA.of_same {o : Oper} {v : Value} {a a' : Act} (hy : YA P ops F o v a) (he : execOp a'.eval o = execOp a.eval o) (hw : Region.wanted o (yielded ops a'.tmps) = Region.wanted o (yielded ops a.tmps)) : YA P ops F o v a' := by
  unfold YA at *
  rw [he, hw]
  exact hy
theorem wpAny_of_A : ∀ (fuel : Nat) (L : Array Bool) (a : Act), wpA P ops Q F s fuel L a → ∀ w, F w → wpAny P .any ops Q fuel L a w
  | 0, _, _, h, w, hF => ⟨h.1, h.2 w hF⟩
  | fuel + 1, L, a, h, w, hF => ⟨fun hr => h.1 hr w hF, fun i hi => by
      rcases h.2 i hi with ⟨_, h2⟩ | ⟨_, h2⟩
      · obtain ⟨_, o, ho, _⟩ := mem_ready.1 hi
        obtain ⟨v, hy, hA⟩ := h2 o ho
        exact hy.wpOp ho hF fun w' hF' => wpAny_of_A fuel _ _ hA w' hF'
      · exact h2 w hF⟩
theorem wpA_first {i : Nat} {oi : Oper} {v : Value} (hi : ops[i]? = some oi) (his : i ≠ s) (hsel : ∀ (j : Nat) (o : Oper) cs b, ops[j]? = some o → o.op ≠ .select cs b)
    (hQ : ∀ c a w, Q (.panic c) (a.put oi.dst v) w → Q (.panic c) a w)
    (Y : Act → Prop) (hYA : ∀ a, Y a → YA P ops F oi v a) (hYs : ∀ a a', Y a → execOp a'.eval oi = execOp a.eval oi → Region.wanted oi (yielded ops a'.tmps) = Region.wanted oi (yielded ops a.tmps) → Y a')
    (hT : (∀ L, Cl .any ops L → L.getD i true = false → s ∉ Region.ready .any ops L) ∨ (∀ a, Y a → Yields P ops oi v a)) :
    ∀ (fuel : Nat) (L : Array Bool) (a : Act),
      (∀ j oj, ops[j]? = some oj → j ≠ i → L.getD j true = false → (∀ e ∈ oj.after, Region.binds .any e = true → e.on ≠ i) → oi.apart ops oj = true) →
      i ∈ Region.ready .any ops L → Cl .any ops L → Y a → wpA P ops Q F s fuel (L.setIfInBounds i true) (a.put oi.dst v) → wpA P ops Q F s (fuel + 1) L a := by
  intro fuel
  induction fuel with
  | zero =>
    intro L a _ hr hcl hy H
    refine ⟨fun h => (by rw [h] at hr; cases hr), fun j hj => ?_⟩
    by_cases hji : j = i
    · subst hji
      exact .inl ⟨his, fun o ho => ⟨v, by rw [hi] at ho; cases ho; exact ⟨hYA a hy, H⟩⟩⟩
    · have := ready_mono hj hji
      rw [H.1] at this
      cases this
  | succ fuel ih =>
    intro L a hfree hr hcl hy H
    refine ⟨fun h => (by rw [h] at hr; cases hr), fun j hj => ?_⟩
    by_cases hji : j = i
    · subst hji
      exact .inl ⟨his, fun o ho => ⟨v, by rw [hi] at ho; cases ho; exact ⟨hYA a hy, H⟩⟩⟩
    · have h1 := H.2 j (ready_mono hj hji)
      obtain ⟨hjun, oj, hoj, hall⟩ := mem_ready.1 hj
      have hnot : ∀ e ∈ oj.after, Region.binds .any e = true → e.on ≠ i := fun e he hb heq => by
        have h1 := hall e he hb
        have h0 := (mem_ready.1 hr).1
        rw [heq] at h1
        rcases Nat.lt_or_ge i L.size with h' | h'
        · simp [h'] at h0 h1; rw [h0] at h1; cases h1
        · simp [Array.getElem?_eq_none h'] at h1
      have hap := hfree j oj hoj hji hjun hnot
      obtain ⟨p1, p2, p3⟩ := Oper.apart_spec hap
      have hfree' : ∀ k ok, ops[k]? = some ok → k ≠ i → (L.setIfInBounds j true).getD k true = false →
          (∀ e ∈ ok.after, Region.binds .any e = true → e.on ≠ i) → oi.apart ops ok = true := fun k ok hk hki hun hno => by
        refine hfree k ok hk hki ?_ hno
        by_cases hjk : j = k
        · subst hjk; exact hjun
        · rw [getD_set_ne true hjk] at hun; exact hun
      rcases h1 with ⟨hjs, h1⟩ | ⟨hjs, h1⟩
      · refine .inl ⟨hjs, fun o ho => ?_⟩
        rw [hoj] at ho
        cases ho
        obtain ⟨u, hyj, hA⟩ := h1 oj hoj
        refine ⟨u, hyj.of_same (execOp_put oj (fun cs b => hsel j oj cs b hoj) a oi.dst v p1).symm (wanted_put oj a oi.dst v p1).symm, ?_⟩
        refine ih (L.setIfInBounds j true) _ hfree' (ready_mono hr (Ne.symm hji)) (hcl.set hj) (hYs a _ hy (execOp_put oi (fun cs b => hsel i oi cs b hi) a oj.dst u p3) (wanted_put oi a oj.dst u p3)) ?_
        rw [Array.setIfInBounds_comm _ _ hji, ← Act.put_comm a v u p2]
        exact hA
      · refine .inr ⟨hjs, fun w hF => ?_⟩
        rcases hT with hT | hT
        · exact absurd (hjs ▸ hj) (hT L hcl (mem_ready.1 hr).1)
        · have h2 := wpOp_put hoj hap (fun cs b => hsel i oi cs b hi) (fun cs b => hsel j oj cs b hoj) hQ (hT a hy) (h1 w hF)
          refine wpOp_mono (fun a' w' h3 => ?_) h2
          refine wpAny_first hi hsel hQ fuel (L.setIfInBounds j true) a' w' hfree' (ready_mono hr (Ne.symm hji)) h3.1 ?_
          rw [Array.setIfInBounds_comm _ _ hji]
          exact h3.2
end
def markL : List Edge → List Bool → List Bool
  | [], M => M
  | e :: r, M => markL r (if Region.binds .any e then M.set e.on true else M)
def upSet (ops : Array Oper) : Nat → List Bool → List Bool
  | 0, M => M
  | i + 1, M => match M.getD i false, ops[i]? with
    | true, some o => upSet ops i (markL o.after.toList M)
    | _, _ => upSet ops i M
def waitsC (ops : Array Oper) (s i : Nat) : Bool := match ops[s]? with
  | some _ => (upSet ops (s + 1) ((List.replicate ops.size false).set s true)).getD i false
  | none => true
theorem getD_lset {M : List Bool} {j q : Nat} (h : (M.set j true).getD q false = true) : q = j ∨ M.getD q false = true := by
  by_cases e : j = q
  · exact .inl e.symm
  · rw [List.getD_eq_getElem?_getD, List.getElem?_set_ne e, ← List.getD_eq_getElem?_getD] at h
    exact .inr h
theorem markL_inv {s : Nat} {L : Array Bool} : ∀ (es : List Edge) (M : List Bool), (∀ q, M.getD q false = true → q = s ∨ L.getD q false = true) → (∀ e ∈ es, Region.binds .any e = true → L.getD e.on false = true) → ∀ q, (markL es M).getD q false = true → q = s ∨ L.getD q false = true
  | [], _, h, _ => h
  | e :: r, M, h, he => by
    refine markL_inv r _ (fun q hq => ?_) fun x hx => he x (by simp [hx])
    split at hq
    · rename_i hb
      rcases getD_lset hq with rfl | hq
      · exact .inr (he e (by simp) hb)
      · exact h q hq
    · exact h q hq
theorem upSet_inv {ops : Array Oper} {s : Nat} {L : Array Bool} (hcl : Cl .any ops L) (hs : ∀ o, ops[s]? = some o → ∀ e ∈ o.after, Region.binds .any e = true → L.getD e.on false = true) : ∀ (i : Nat) (M : List Bool), (∀ q, M.getD q false = true → q = s ∨ L.getD q false = true) → ∀ q, (upSet ops i M).getD q false = true → q = s ∨ L.getD q false = true
  | 0, _, h => h
  | i + 1, M, h => by
    unfold upSet
    split
    · rename_i o hM ho
      refine upSet_inv hcl hs i _ (markL_inv _ _ h fun e he hb => ?_)
      rw [Array.mem_toList_iff] at he
      rcases h i hM with rfl | hL
      · exact hs o ho e he hb
      · exact hcl i o ho hL e he hb
    · exact upSet_inv hcl hs i M h
theorem waitsC_spec {ops : Array Oper} {s i : Nat} (h : waitsC ops s i = true) (his : i ≠ s) {L : Array Bool} (hcl : Cl .any ops L) (hL : L.getD i true = false) : s ∉ Region.ready .any ops L := by
  intro hr
  obtain ⟨_, o, ho, hall⟩ := mem_ready.1 hr
  unfold waitsC at h
  rw [ho] at h
  rcases upSet_inv hcl (fun o' ho' => by rw [ho] at ho'; cases ho'; exact hall) (s + 1) _ (fun q hq => by
    rcases getD_lset hq with rfl | hq
    · exact .inl rfl
    · rw [List.getD_eq_getElem?_getD, List.getElem?_replicate] at hq
      split at hq <;> simp at hq) i h with rfl | h2
  · exact his rfl
  · rw [Array.getD_eq_getD_getElem?] at hL h2
    cases hx : L[i]? with
    | none => rw [hx] at h2; simp at h2
    | some b => rw [hx] at h2 hL; simp at h2 hL; rw [h2] at hL; cases hL
/-- An order: 1: pure, at any time; 2: reads, or calls what only makes memory, before s; 0: s itself, behind all else that is ready. -/
def chkA (ops : Array Oper) (s : Nat) : List (Nat × Nat) → List Bool → Bool
  | [], L => (Region.ready .any ops L.toArray).isEmpty
  | (i, 0) :: r, L => i == s && (Region.ready .any ops L.toArray).contains i && chk ops 9999 ((i, 0) :: r) L
  | (i, 1) :: r, L => Region.free .any ops L.toArray i && (Region.ready .any ops L.toArray).contains i && (i != s) && chkA ops s r (L.set i true)
  | (i, _ + 2) :: r, L => Region.free .any ops L.toArray i && (Region.ready .any ops L.toArray).contains i && (i != s) && waitsC ops s i && chkA ops s r (L.set i true)
def gdB (all : Array Oper) (ρ : E) : Option (Nat × Bool) → Option Bool
  | none => some true
  | some (j, want) => match (all[j]?).bind (·.dst) with
    | some g => match VW.look ρ g with
      | some (.bool b) => some (b == want)
      | some (.tuple ⟨[]⟩) => some false
      | _ => none
    | none => none
section
variable {P : Program} [hT : Tab P] {n : Nat} {ds : List Deferred} {Φ : Post} {k : List It} {ρ : E} {w : World} {all : Array Oper} {l : List Oper} {s : Nat} {F : World → Prop} {π : List (Nat × Nat)} {L : List Bool}
def OrdA (P : Program) (n : Nat) (ds : List Deferred) (all : Array Oper) (k : List It) (Φ : Post) (s : Nat) (F : World → Prop) (π : List (Nat × Nat)) (L : List Bool) (ρ : E) : Prop :=
  chkA all s π L = true → Region.noSelect all = true → (all.toList.all fun o => dOk n o.dst) = true → Cl .any all L.toArray → (∀ c ρ w, (Φ (.panic c) ρ w → Φ (.panic c) [] w)) → ∀ a, Rep n a ρ → a.defers = ds → wpA P all (lift n ds (Qof P n ds Φ k)) F s π.length L.toArray a
omit hT in
theorem OrdA.nil (h : ∀ w, F w → W P n ds k Φ ρ w) : OrdA P n ds all k Φ s F [] L ρ := fun hc _ _ _ _ a hr hd => ⟨by simpa [chkA] using hc, fun w hF => ⟨ρ, hr, LiftD.mk hd (h w hF)⟩⟩
omit hT in
theorem gdB_wanted {o : Oper} {c : Bool} (hg : gdB all ρ o.guard = some c) {a : Act} (hr : Rep n a ρ) : Region.wanted o (yielded all a.tmps) = c := by
  unfold Region.wanted
  cases hgd : o.guard with
  | none => rw [hgd] at hg; simp [gdB] at hg; simp [hg]
  | some p =>
    obtain ⟨j, want⟩ := p
    rw [hgd] at hg
    simp only [gdB] at hg
    split at hg
    · rename_i g hj
      split at hg
      · rename_i b hv
        simp only [Option.some.injEq] at hg
        simp only [yielded_of hr hj hv]
        rw [← hg]
        cases b <;> cases want <;> rfl
      · rename_i hv
        simp only [Option.some.injEq] at hg
        simp only [yielded_un hr hj hv, ← hg]
        cases want <;> rfl
      · simp at hg
    · simp at hg
omit hT in
theorem pan_no_ : True := trivial
omit hT in
theorem OrdA.go {i d m : Nat} {o : Oper} {v : Value} (ho : all[i]? = some o) (hd : o.dst = some d)
    (Y : Act → Prop) (hYA : ∀ a, Y a → YA P all F o v a) (hYs : ∀ a a', Y a → execOp a'.eval o = execOp a.eval o → Region.wanted o (yielded all a'.tmps) = Region.wanted o (yielded all a.tmps) → Y a')
    (hTT : (m = 0 ∧ ∀ a, Y a → Yields P all o v a) ∨ m = 1) (hy : ∀ a, Rep n a ρ → Y a)
    (h : OrdA P n ds all k Φ s F π (L.set i true) ((d, v) :: ρ)) : OrdA P n ds all k Φ s F ((i, m + 1) :: π) L ρ := by
  intro hc hs hdo hcl hΦ a hr hds
  have hdn : dOk n o.dst = true := by
    rw [List.all_eq_true] at hdo
    exact hdo o (by rw [← Array.getElem?_toList] at ho; exact List.mem_of_getElem? ho)
  have hcc : Region.free .any all L.toArray i = true ∧ (Region.ready .any all L.toArray).contains i = true ∧ i ≠ s ∧ chkA all s π (L.set i true) = true ∧ ((∀ L, Cl .any all L → L.getD i true = false → s ∉ Region.ready .any all L) ∨ (∀ a, Y a → Yields P all o v a)) := by
    rcases hTT with ⟨rfl, hT1⟩ | rfl
    · simp only [chkA, Bool.and_eq_true, bne_iff_ne] at hc
      exact ⟨hc.1.1.1, hc.1.1.2, hc.1.2, hc.2, .inr hT1⟩
    · simp only [chkA, Bool.and_eq_true, bne_iff_ne] at hc
      exact ⟨hc.1.1.1.1, hc.1.1.1.2, hc.1.1.2, hc.2, .inl fun L hcl hL => waitsC_spec hc.1.2 hc.1.1.2 hcl hL⟩
  obtain ⟨h1, h2, h3, h4, h5⟩ := hcc
  have hrd : i ∈ Region.ready .any all L.toArray := by simpa using h2
  refine wpA_first ho h3 (Region.noSelect_spec hs) (fun c a w hq => lift_pan hΦ hq) Y hYA hYs h5 π.length L.toArray a (Region.free_spec ho h1) hrd hcl (hy a hr) ?_
  have := h h4 hs hdo (by rw [← List.setIfInBounds_toArray]; exact hcl.set hrd) hΦ (a.put o.dst v) (by have := hr.put hdn v; rw [hd] at this ⊢; exact this) (by rw [hd]; exact hds)
  rw [List.setIfInBounds_toArray]
  exact this
omit hT in
/-- A pure operation. -/
theorem OrdA.pure {i d : Nat} {o : Oper} {v : Value} {c : Bool} (ho : all[i]? = some o) (hd : o.dst = some d) (hg : gdB all ρ o.guard = some c) (hgc : c = true) (hev : ∀ w, EV P n ρ w o v)
    (h : OrdA P n ds all k Φ s F π (L.set i true) ((d, v) :: ρ)) : OrdA P n ds all k Φ s F ((i, 1) :: π) L ρ := by
  subst hgc
  refine OrdA.go ho hd (Y := fun a => Region.wanted o (yielded all a.tmps) = true ∧ ∀ w, (execOp a.eval o).run P w = .ok (.value v) w) (fun a hy => .inl ⟨hy.1, fun w _ => .inl (hy.2 w)⟩) (fun a a' hy he hw => by rw [he, hw]; exact hy)
    (.inl ⟨rfl, fun a hy => .inl hy⟩) (fun a hr => ⟨gdB_wanted hg hr, fun w => hev w a hr⟩) h
omit hT in
/-- An operation that is not wanted. -/
theorem OrdA.no {i d m : Nat} {o : Oper} {c : Bool} (ho : all[i]? = some o) (hd : o.dst = some d) (hg : gdB all ρ o.guard = some c) (hgc : c = false) (hm : m < 2)
    (h : OrdA P n ds all k Φ s F π (L.set i true) ((d, undef) :: ρ)) : OrdA P n ds all k Φ s F ((i, m + 1) :: π) L ρ := by
  subst hgc
  refine OrdA.go ho hd (Y := fun a => Region.wanted o (yielded all a.tmps) = false) (fun a hy => .inr ⟨hy, rfl⟩) (fun a a' hy he hw => by rw [hw]; exact hy) ?_ (fun a hr => gdB_wanted hg hr) h
  have : m = 0 ∨ m = 1 := by omega
  rcases this with rfl | rfl
  · exact .inl ⟨rfl, fun a hy => .inr ⟨hy, rfl⟩⟩
  · exact .inr rfl
omit hT in
/-- A read. -/
theorem OrdA.read {i d : Nat} {o : Oper} {v : Value} {c : Bool} (ho : all[i]? = some o) (hd : o.dst = some d) (hg : gdB all ρ o.guard = some c) (hgc : c = true) (hev : ∀ w, F w → EV P n ρ w o v)
    (h : OrdA P n ds all k Φ s F π (L.set i true) ((d, v) :: ρ)) : OrdA P n ds all k Φ s F ((i, 2) :: π) L ρ := by
  subst hgc
  exact OrdA.go ho hd (Y := fun a => Region.wanted o (yielded all a.tmps) = true ∧ ∀ w, F w → (execOp a.eval o).run P w = .ok (.value v) w) (fun a hy => .inl ⟨hy.1, fun w hF => .inl (hy.2 w hF)⟩) (fun a a' hy he hw => by rw [he, hw]; exact hy)
    (.inr rfl) (fun a hr => ⟨gdB_wanted hg hr, fun w hF => hev w hF a hr⟩) h
/-- A call whose value is known, and that leaves what F tells. -/
theorem OrdA.call [hF : Fns P] {i d : Nat} {o : Oper} {cl : Call} {f : Nat} {vs : List Value} {v : Value} {c : Bool} (ho : all[i]? = some o) (hop : o.op = .call cl) (hd : o.dst = some d) (hg : gdB all ρ o.guard = some c) (hgc : c = true)
    (hv : callV ρ cl = some (f, vs)) (hf : memB hF.L f = true) (hc : ∀ w, F w → Calls P f vs.toArray w (Ret fun r w' => r = v ∧ F w'))
    (h : OrdA P n ds all k Φ s F π (L.set i true) ((d, v) :: ρ)) : OrdA P n ds all k Φ s F ((i, 2) :: π) L ρ := by
  subst hgc
  refine OrdA.go ho hd (Y := fun a => Region.wanted o (yielded all a.tmps) = true ∧ ∀ w, F w → ∃ f args, (execOp a.eval o).run P w = .ok (.enter f args) w ∧ Calls P f args w (fun e w' => e = .returned v ∧ F w')) (fun a hy => .inl ⟨hy.1, fun w hF => .inr (hy.2 w hF)⟩) (fun a a' hy he hw => by rw [he, hw]; exact hy)
    (.inr rfl) (fun a hr => ⟨gdB_wanted hg hr, fun w hF => ⟨f, vs.toArray, run_callV hop hv (Fns.call hf) hr, (hc w hF).mono fun e w' ⟨r, he, hr', hF'⟩ => ⟨by rw [he, hr'], hF'⟩⟩⟩) h
omit hT in
/-- The end of a region: at a world that is known. -/
theorem OrdA.tail (h : ∀ w, F w → Ord P n ds all k Φ 9999 (fun _ => True) ((s, 0) :: π) L ρ w) : OrdA P n ds all k Φ s F ((s, 0) :: π) L ρ := by
  intro hc hs hdo hcl _ a hr hd
  simp only [chkA, Bool.and_eq_true] at hc
  have hrs : Region.ready .any all L.toArray = [s] := by
    have := hc.2
    simp only [chk, Bool.and_eq_true, beq_iff_eq] at this
    exact this.1
  refine ⟨fun h0 => (by rw [hrs] at h0; cases h0), fun i hi => ?_⟩
  rw [hrs] at hi
  simp only [List.mem_singleton] at hi
  refine .inr ⟨hi, fun w hF => ?_⟩
  have := h w hF hc.2 hs hdo hcl (fun _ => trivial) a hr hd
  exact wpOp_mono (fun a' w' h' => wpAny_of_I _ _ _ _ h'.2) (this.2 i (by rw [hrs, hi]; simp))
omit hT in
theorem W.ordA {id : Nat} {ops : Array Oper} (s : Nat) (π : List (Nat × Nat)) (hm : P.follows .mixedOrders = true) (hs : Region.noSelect ops = true) (hlen : π.length = ops.size) (hc : chkA ops s π (List.replicate π.length false) = true) (hΦ : ∀ c ρ w, (Φ (.panic c) ρ w → Φ (.panic c) [] w))
    (h : OrdA P n ds ops k Φ s (fun w' => Below w.heap.size w w') π (List.replicate π.length false) ρ) : W P n ds (.code (.region id ops true) :: k) Φ ρ w := by
  intro hi a hr hd
  refine wp_region_any hm ?_
  have := wpAny_of_A _ _ _ (h hc hs (by simpa [inB] using hi) (by rw [List.toArray_replicate]; exact Cl.start _) hΦ a hr hd) w.drew (Kp.below (kp_drew w) (Nat.le_refl _) (fun _ _ e => e))
  rw [← hlen]
  rw [List.toArray_replicate] at this
  exact this
/-- Reads of several cells at once. -/
theorem EV.ld2 {o : Oper} {t : Nat} {x : Operand} {p : Addr} {v u : Value} (ho : o.op = .load t x) (ht : tyAgg P t = some true) (hs : tyS P t = some 2) (hx : ev ρ x = some (.pointer (some p))) (hc : w.cell? p = some v) (hc2 : w.cell? (p.add 1) = some u) : EV P n ρ w o (.agg #[v, u]) := by
  intro a hr
  have e0 : p.add 0 = p := by simp [Addr.add]
  simp [execOp, ho, Instr.loadAt, Instr.sureAddr, hr.ev hx, loadVar, run_isAgg ht, run_sizeOf hs, loadCells, loadCellsFrom, load, Sem.run, hc, hc2, e0]
/-- An element of a slice that stands. -/
theorem OrdA.rdS {α : Type} {enc : α → Value} {z : α} {i1 i2 d1 d2 t t' e : Nat} {o1 o2 : Oper} {x y : Operand} {v : Value} {i : Int} {xs : List α} {w0 : World} {c1 c2 : Bool}
    (h1 : all[i1]? = some o1) (ho : o1.op = .indexAddr t x y) (hd1 : o1.dst = some d1) (hg1 : gdB all ρ o1.guard = some c1) (hc1 : c1 = true)
    (h2 : all[i2]? = some o2) (ho2 : o2.op = .load t' (.tmp d1)) (hd2 : o2.dst = some d2) (hg2 : ∀ p, gdB all ((d1, .pointer p) :: ρ) o2.guard = some c2) (hc2 : c2 = true)
    (ht : tyD P t = some (.slice e)) (hs : tyS P e = some 1) (ha : tyAgg P t' = some false) (hx : ev ρ x = some v) (hy : ev ρ y = some (.int .i64 i)) (hsl : Sl enc z w0 v xs) (hF : ∀ w, F w → Below w0.heap.size w0 w) (h0 : 0 ≤ i) (hi : i < xs.length)
    (hk : ∀ p, OrdA P n ds all k Φ s F π ((L.set i1 true).set i2 true) ((d2, enc (xs.getD i.toNat z)) :: (d1, p) :: ρ)) : OrdA P n ds all k Φ s F ((i1, 1) :: (i2, 2) :: π) L ρ := by
  obtain ⟨hm, A, c, rfl, h⟩ := hsl
  obtain ⟨a, rfl, hc⟩ := h (by omega)
  refine OrdA.pure h1 hd1 hg1 hc1 (fun w => EV.idx ho ht hs hx hy h0 hi) ?_
  rw [Nat.mul_one]
  exact OrdA.read h2 hd2 (hg2 _) hc2 (fun w hw => EV.ld ho2 ha (ev_top _ _ _) (cell_kp (Kp.of_below (S := fun _ => False) (hF w hw)) (hc i.toNat (by omega)) (fun e => e))) (hk _)
end
end Go.Proofs.YtcmjlmnfdncajaaGreatDoor.VW
/- Rules for walks that go by themselves: facts are looked up among the hypotheses, by the world at which they were told. -/
namespace Go.Proofs.YtcmjlmnfdncajaaGreatDoor.VW
open Go Go.RowKit
theorem Below.via {a b c : World} (h : Below a.heap.size a b) (k : Below b.heap.size b c) : Below a.heap.size a c := h.trans (k.mono h.size)
theorem Calls.via {P : Program} {f : FuncId} {args : Array Value} {v : Value} {a b : World} (hF : Below a.heap.size a b) (h : Calls P f args b (Ret fun r w' => r = v ∧ Below b.heap.size b w')) : Calls P f args b (Ret fun r w' => r = v ∧ Below a.heap.size a w') :=
  h.mono fun e w' ⟨r, he, hr, hb⟩ => ⟨r, he, hr, Below.via hF hb⟩
theorem Calls.same {P : Program} {f : FuncId} {args : Array Value} {v : Value} {a b : World} (hF : Below a.heap.size a b) (h : Calls P f args b (Ret fun r w' => r = v ∧ w' = b)) : Calls P f args b (Ret fun r w' => r = v ∧ Below a.heap.size a w') :=
  h.mono fun e w' ⟨r, he, hr, hb⟩ => ⟨r, he, hr, by rw [hb]; exact hF⟩
section
variable {P : Program} [hT : Tab P] {n : Nat} {ds : List Deferred} {Φ : Post} {k : List It} {ρ : E} {w : World} {all : Array Oper} {l : List Oper} {md : Option (List Oper)} {s : Nat} {F : World → Prop} {π : List (Nat × Nat)} {L : List Bool}
omit hT in
theorem EV.ng {o : Oper} {v : Value} (h : EV P n ρ w o v) : EV P n ρ w { o with guard := none } v := fun a hr => h a hr
omit hT in
/-- Any operation that gives a value, under its guard. -/
theorem Ops.evG {o : Oper} {d : Nat} {v : Value} {c : Bool} (hd : o.dst = some d) (hg : gdB all ρ o.guard = some c) (hc : c = true) (hev : EV P n ρ w o v) (hk : Ops md P n ds all k Φ l ((d, v) :: ρ) w) : Ops md P n ds all k Φ (o :: l) ρ w := by
  subst hc
  intro hi a ha hds
  simp only [List.all_cons, Bool.and_eq_true] at hi
  have hw := gdB_wanted hg ha
  have h' := hk hi.2 (a.put o.dst v) (by have := ha.put hi.1 v; rw [hd] at this ⊢; exact this) (by rw [hd]; exact hds)
  cases md with
  | none =>
    show wpList _ _ _ _ _ _
    unfold wpList
    rw [if_pos hw]
    refine .inl ?_
    unfold Oper.wp
    rw [hev a ha]
    exact h'
  | some tl =>
    show wpStill _ _ _ _ _ _
    unfold wpStill
    rw [if_pos hw]
    unfold Oper.still
    rw [hev a ha]
    exact ⟨rfl, h'⟩
omit hT in
theorem Ops.evN {o : Oper} {d : Nat} {c : Bool} (hd : o.dst = some d) (hg : gdB all ρ o.guard = some c) (hc : c = false) (hk : Ops md P n ds all k Φ l ((d, undef) :: ρ) w) : Ops md P n ds all k Φ (o :: l) ρ w := by
  subst hc
  intro hi a ha hds
  simp only [List.all_cons, Bool.and_eq_true] at hi
  have hw := gdB_wanted hg ha
  have h' := hk hi.2 (a.put o.dst undef) (by have := ha.put hi.1 undef; rw [hd] at this ⊢; exact this) (by rw [hd]; exact hds)
  cases md with
  | none =>
    show wpList _ _ _ _ _ _
    unfold wpList
    rw [if_neg (by rw [hw]; simp)]
    exact h'
  | some tl =>
    show wpStill _ _ _ _ _ _
    unfold wpStill
    rw [if_neg (by rw [hw]; simp)]
    exact h'
omit hT in
theorem EV.pickT {o : Oper} {c x y : Operand} {b : Bool} {v : Value} (ho : o.op = .pick c x y) (hc : ev ρ c = some (.bool b)) (hb : b = true) (hx : ev ρ x = some v) : EV P n ρ w o v := by
  intro a hr
  simp [execOp, ho, hr.ev hc, hr.ev hx, asBool, hb]
omit hT in
theorem EV.pickF {o : Oper} {c x y : Operand} {b : Bool} {v : Value} (ho : o.op = .pick c x y) (hc : ev ρ c = some (.bool b)) (hb : b = false) (hx : ev ρ y = some v) : EV P n ρ w o v := by
  intro a hr
  simp [execOp, ho, hr.ev hc, hr.ev hx, asBool, hb]
omit hT in
theorem EV.max {o : Oper} {x y : Operand} {ts : Array TypeId} {a b : Int} (ho : o.op = .call { callee := .builtin .max, args := #[x, y], argTypes := ts }) (hx : ev ρ x = some (.int .i64 a)) (hy : ev ρ y = some (.int .i64 b)) : EV P n ρ w o (.int .i64 (Max.max a b)) := by
  intro c hr
  have e : (if b > a then b else a) = Max.max a b := by simp only [Int.max_def]; split <;> split <;> omega
  simp [execOp, ho, resolve, hr.ev hx, hr.ev hy, invoke, builtin, Builtin.max_, Builtin.max2, ← e]
omit hT in
theorem EV.min {o : Oper} {x y : Operand} {ts : Array TypeId} {a b : Int} (ho : o.op = .call { callee := .builtin .min, args := #[x, y], argTypes := ts }) (hx : ev ρ x = some (.int .i64 a)) (hy : ev ρ y = some (.int .i64 b)) : EV P n ρ w o (.int .i64 (Min.min a b)) := by
  intro c hr
  have e : (if b < a then b else a) = Min.min a b := by simp only [Int.min_def]; split <;> split <;> omega
  simp [execOp, ho, resolve, hr.ev hx, hr.ev hy, invoke, builtin, Builtin.min_, Builtin.min2, ← e]
theorem EV.eqB {o : Oper} {t t' : Nat} {x y : Operand} {a b : Bool} (ho : o.op = .binOp .eql t x y t') (ht : tyD P t = some .bool) (hx : ev ρ x = some (.bool a)) (hy : ev ρ y = some (.bool b)) : EV P n ρ w o (.bool (a == b)) := by
  intro c hr
  have hu := run_equal_bool (P := P) (w := w) (a := a) (b := b) (td_bool (tyD_ok ht))
  simp only [execOp, ho, hr.ev hx, hr.ev hy]
  simp [eqGuard, binOp, hu]
theorem EV.neB {o : Oper} {t t' : Nat} {x y : Operand} {a b : Bool} (ho : o.op = .binOp .neq t x y t') (ht : tyD P t = some .bool) (hx : ev ρ x = some (.bool a)) (hy : ev ρ y = some (.bool b)) : EV P n ρ w o (.bool (!(a == b))) := by
  intro c hr
  have hu := run_equal_bool (P := P) (w := w) (a := a) (b := b) (td_bool (tyD_ok ht))
  simp only [execOp, ho, hr.ev hx, hr.ev hy]
  simp [eqGuard, binOp, hu]
/-- An element of a slice that was told of at an earlier world. -/
theorem Ops.rdB {α : Type} {enc : α → Value} {z : α} {o1 o2 : Oper} {d1 d2 t t' e : Nat} {x y : Operand} {v : Value} {i : Int} {xs : List α} {w0 : World} {c1 c2 : Bool}
    (ho : o1.op = .indexAddr t x y) (hd1 : o1.dst = some d1) (hg1 : gdB all ρ o1.guard = some c1) (hc1 : c1 = true) (ho2 : o2.op = .load t' (.tmp d1)) (hd2 : o2.dst = some d2) (hg2 : ∀ p, gdB all ((d1, .pointer p) :: ρ) o2.guard = some c2) (hc2 : c2 = true)
    (ht : tyD P t = some (.slice e)) (hs : tyS P e = some 1) (ha : tyAgg P t' = some false) (hx : ev ρ x = some v) (hy : ev ρ y = some (.int .i64 i)) (hsl : Sl enc z w0 v xs) (hb : Below w0.heap.size w0 w) (h0 : 0 ≤ i) (h1 : i < xs.length)
    (hk : ∀ p, Ops md P n ds all k Φ l ((d2, enc (xs.getD i.toNat z)) :: (d1, p) :: ρ) w) : Ops md P n ds all k Φ (o1 :: o2 :: l) ρ w := by
  obtain ⟨hm, A, c, rfl, h⟩ := hsl
  obtain ⟨a, rfl, hc⟩ := h (by omega)
  refine Ops.evG hd1 hg1 hc1 (EV.idx ho ht hs hx hy h0 h1) ?_
  rw [Nat.mul_one]
  exact Ops.evG hd2 (hg2 _) hc2 (EV.ld ho2 ha (ev_top _ _ _) (cell_kp (Kp.of_below (S := fun _ => False) hb) (hc i.toNat (by omega)) (fun e => e))) (hk _)
theorem Ops.rdBn {α : Type} {enc : α → Value} {z : α} {o1 o2 : Oper} {d1 d2 t t' e : Nat} {x y : Operand} {v : Value} {i : Nat} {xs : List α} {w0 : World} {c1 c2 : Bool}
    (ho : o1.op = .indexAddr t x y) (hd1 : o1.dst = some d1) (hg1 : gdB all ρ o1.guard = some c1) (hc1 : c1 = true) (ho2 : o2.op = .load t' (.tmp d1)) (hd2 : o2.dst = some d2) (hg2 : ∀ p, gdB all ((d1, .pointer p) :: ρ) o2.guard = some c2) (hc2 : c2 = true)
    (ht : tyD P t = some (.slice e)) (hs : tyS P e = some 1) (ha : tyAgg P t' = some false) (hx : ev ρ x = some v) (hy : ev ρ y = some (.int .i64 (i : Int))) (hsl : Sl enc z w0 v xs) (hb : Below w0.heap.size w0 w) (h1 : i < xs.length)
    (hk : ∀ p, Ops md P n ds all k Φ l ((d2, enc (xs.getD i z)) :: (d1, p) :: ρ) w) : Ops md P n ds all k Φ (o1 :: o2 :: l) ρ w :=
  Ops.rdB ho hd1 hg1 hc1 ho2 hd2 hg2 hc2 ht hs ha hx hy hsl hb (by omega) (by omega) hk
theorem OrdA.rdSn {α : Type} {enc : α → Value} {z : α} {i1 i2 d1 d2 t t' e : Nat} {o1 o2 : Oper} {x y : Operand} {v : Value} {i : Nat} {xs : List α} {w0 : World} {c1 c2 : Bool}
    (h1 : all[i1]? = some o1) (ho : o1.op = .indexAddr t x y) (hd1 : o1.dst = some d1) (hg1 : gdB all ρ o1.guard = some c1) (hc1 : c1 = true)
    (h2 : all[i2]? = some o2) (ho2 : o2.op = .load t' (.tmp d1)) (hd2 : o2.dst = some d2) (hg2 : ∀ p, gdB all ((d1, .pointer p) :: ρ) o2.guard = some c2) (hc2 : c2 = true)
    (ht : tyD P t = some (.slice e)) (hs : tyS P e = some 1) (ha : tyAgg P t' = some false) (hx : ev ρ x = some v) (hy : ev ρ y = some (.int .i64 (i : Int))) (hsl : Sl enc z w0 v xs) (hF : ∀ w, F w → Below w0.heap.size w0 w) (hi : i < xs.length)
    (hk : ∀ p, OrdA P n ds all k Φ s F π ((L.set i1 true).set i2 true) ((d2, enc (xs.getD i z)) :: (d1, p) :: ρ)) : OrdA P n ds all k Φ s F ((i1, 1) :: (i2, 2) :: π) L ρ :=
  OrdA.rdS h1 ho hd1 hg1 hc1 h2 ho2 hd2 hg2 hc2 ht hs ha hx hy hsl hF (by omega) (by omega) hk
omit hT in
/-- A guard that is decided. -/
theorem OrdA.lit {i m j g : Nat} {want b c : Bool} {o : Oper} (ho : all[i]? = some o) (hg : o.guard = some (j, want)) (hj : (all[j]?).bind (·.dst) = some g) (hv : VW.look ρ g = some (.bool b)) (hb : b = c)
    (h : OrdA P n ds all k Φ s F ((i, m) :: π) L ((g, .bool c) :: ρ)) : OrdA P n ds all k Φ s F ((i, m) :: π) L ρ := by
  intro h1 h2 h3 h4 h5 a hr hd
  refine h h1 h2 h3 h4 h5 a ⟨hr.size, fun t v hl => ?_⟩ hd
  simp only [look] at hl
  cases hb2 : Nat.beq g t with
  | true =>
    rw [hb2] at hl
    have := Nat.eq_of_beq_eq_true hb2
    subst this
    simp at hl
    rw [← hl, ← hb]
    exact hr.slot _ _ hv
  | false => rw [hb2] at hl; exact hr.slot _ _ hl
omit hT in
/-- Branches. -/
theorem W.condD {c : Operand} {x y : Code} {p : Prop} [Decidable p] (hc : ev ρ c = some (.bool (decide p))) (ht : p → W P n ds (.code x :: k) Φ ρ w) (hf : ¬ p → W P n ds (.code y :: k) Φ ρ w) : W P n ds (.code (.cond c x y) :: k) Φ ρ w :=
  W.cond hc (fun h => ht (by simpa using h)) (fun h => hf (by simpa using h))
omit hT in
theorem W.condE {c : Operand} {x y : Code} {p q : Int} (hc : ev ρ c = some (.bool (p == q))) (ht : p = q → W P n ds (.code x :: k) Φ ρ w) (hf : ¬ p = q → W P n ds (.code y :: k) Φ ρ w) : W P n ds (.code (.cond c x y) :: k) Φ ρ w :=
  W.cond hc (fun h => ht (by simpa using h)) (fun h => hf (by simpa using h))
omit hT in
theorem W.condN {c : Operand} {x y : Code} {p q : Int} (hc : ev ρ c = some (.bool (p != q))) (ht : ¬ p = q → W P n ds (.code x :: k) Φ ρ w) (hf : p = q → W P n ds (.code y :: k) Φ ρ w) : W P n ds (.code (.cond c x y) :: k) Φ ρ w :=
  W.cond hc (fun h => ht (by simpa using h)) (fun h => hf (by simpa using h))
omit hT in
theorem W.condT {c : Operand} {x y : Code} {b : Bool} (hc : ev ρ c = some (.bool b)) (hb : b = true) (h : W P n ds (.code x :: k) Φ ρ w) : W P n ds (.code (.cond c x y) :: k) Φ ρ w :=
  W.cond hc (fun _ => h) (fun e => by rw [hb] at e; cases e)
omit hT in
theorem W.condF {c : Operand} {x y : Code} {b : Bool} (hc : ev ρ c = some (.bool b)) (hb : b = false) (h : W P n ds (.code y :: k) Φ ρ w) : W P n ds (.code (.cond c x y) :: k) Φ ρ w :=
  W.cond hc (fun e => by rw [hb] at e; cases e) (fun _ => h)
end
end Go.Proofs.YtcmjlmnfdncajaaGreatDoor.VW
