/- A part of the walk: what this seat's statements share. -/
import Derived.Test.YtdiljpnfochndaaZV4
set_option linter.unusedSectionVars false
set_option linter.unusedVariables false
set_option linter.unusedSimpArgs false
/- Slices that read as lists; joins; guards. -/
namespace Go.Proofs.Ytdiljpnfochndaa.VW
open Go Go.RowKit
theorem ev_top (d : Nat) (v : Value) (ρ : E) : ev ((d, v) :: ρ) (.tmp d) = some v := by simp [ev, look]
theorem World.block_of_cell {w : World} {a : Addr} {v : Value} (h : w.cell? a = some v) : a.block < w.heap.size := World.block_lt_of_cell? w a h
theorem add_block (a : Addr) (j : Nat) : (a.add j).block = a.block := by unfold Addr.add; split <;> rfl
/-- v is a slice that reads as xs. -/
def Sl {α : Type} (enc : α → Value) (z : α) (w : World) (v : Value) (xs : List α) : Prop :=
  xs.length ≤ 9223372036854775807 ∧ ∃ A c, v = .slice A xs.length c ∧ (0 < xs.length → ∃ a, A = some a ∧ ∀ j, j < xs.length → w.cell? (a.add j) = some (enc (xs.getD j z)))
abbrev SlI (w : World) (v : Value) (xs : List Int) : Prop := Sl (Value.int .i64) 0 w v xs
abbrev SlB (w : World) (v : Value) (xs : List Bool) : Prop := Sl Value.bool false w v xs
theorem Sl.kp {α : Type} {enc : α → Value} {z : α} {w w' : World} {v : Value} {xs : List α} {S : Nat → Prop} (h : Sl enc z w v xs) (k : Kp S w w') (hs : ∀ i, v.ownBlock = some i → ¬ S i) : Sl enc z w' v xs := by
  obtain ⟨hm, A, c, rfl, h⟩ := h
  refine ⟨hm, A, c, rfl, fun hp => ?_⟩
  obtain ⟨a, rfl, hc⟩ := h hp
  exact ⟨a, rfl, fun j hj => cell_kp k (hc j hj) (by rw [add_block]; exact hs _ rfl)⟩
theorem Sl.below {α : Type} {enc : α → Value} {z : α} {w w' : World} {v : Value} {xs : List α} (h : Sl enc z w v xs) (k : Below w.heap.size w w') : Sl enc z w' v xs := h.kp (Kp.of_below (S := fun _ => False) k) (fun _ _ e => e)
theorem Sl.lt {α : Type} {enc : α → Value} {z : α} {w : World} {v : Value} {xs : List α} (h : Sl enc z w v xs) (hp : 0 < xs.length) {i : Nat} (hi : v.ownBlock = some i) : i < w.heap.size := by
  obtain ⟨hm, A, c, rfl, h⟩ := h
  obtain ⟨a, rfl, hc⟩ := h hp
  have := World.block_of_cell (hc 0 hp)
  rw [add_block] at this
  simp [Value.ownBlock] at hi
  omega
theorem Sl.new {α : Type} {enc : α → Value} {z : α} {w w' : World} {v : Value} {xs : List α} {S : Nat → Prop} (h : Sl enc z w v xs) (k : Kp S w w') (hs : ∀ i, S i → w.heap.size ≤ i) : Sl enc z w' v xs := by
  obtain ⟨hm, A, c, rfl, h⟩ := h
  refine ⟨hm, A, c, rfl, fun hp => ?_⟩
  obtain ⟨a, rfl, hc⟩ := h hp
  exact ⟨a, rfl, fun j hj => cell_kp k (hc j hj) (fun e => by have := World.block_of_cell (hc j hj); have := hs _ e; omega)⟩
theorem Sl.len {α : Type} {enc : α → Value} {z : α} {w : World} {v : Value} {xs : List α} (h : Sl enc z w v xs) : xs.length ≤ 9223372036854775807 := h.1
theorem Sl.nil {α : Type} (enc : α → Value) (z : α) (w : World) (A : Option Addr) (c : Nat) : Sl enc z w (.slice A 0 c) [] := ⟨by simp, A, c, rfl, fun h => absurd h (by simp)⟩
theorem own_sl {α : Type} {enc : α → Value} {z : α} {w : World} {v : Value} {xs : List α} {e : Nat} (h : w.ownsRow 0 e 1 v xs.length (xs.map enc)) : Sl enc z w v xs := by
  rcases h.2 with ⟨rfl, h0⟩ | ⟨g, cap, cur, rfl, _, hg, hnc, hcm, hcs, ht⟩
  · exact ⟨by omega, none, 0, by rw [h0], fun hp => absurd hp (by omega)⟩
  · refine ⟨by simp only [maxLen] at hcm; omega, some ⟨g, 0, none⟩, cap, rfl, fun hp => ⟨_, rfl, fun j hj => ?_⟩⟩
    refine h.cells (g := g) rfl j _ ?_
    simp [hj, List.getD_eq_getElem?_getD]
section
variable {P : Program} [hT : Tab P] {n : Nat} {ds : List Deferred} {Φ : Post} {k : List It} {ρ : E} {w : World} {all : Array Oper} {l : List Oper} {md : Option (List Oper)}
omit hT in
theorem Qof.mono_lp {J J' : E → World → Prop} (h : ∀ ρ w, J ρ w → J' ρ w) (e : Exit) (ρ : E) (w : World) (hq : Qof P n ds Φ (.lp J :: k) e ρ w) : Qof P n ds Φ (.lp J' :: k) e ρ w := by
  cases e <;> first | exact h _ _ hq | exact hq
omit hT in
/-- A join: what is behind is shown once. -/
theorem W.cut {a b : Code} (J : E → World → Prop) (h1 : W P n ds (.code a :: .lp (fun ρ1 w1 => ∃ ρ2, J ρ2 w1 ∧ Sub ρ2 ρ1) :: k) Φ ρ w) (h2 : ∀ ρ w, J ρ w → W P n ds (.code b :: k) Φ ρ w) : W P n ds (.code a :: .code b :: k) Φ ρ w := by
  refine Wc.mono (fun e ρ1 w1 hq => ?_) h1
  cases e with
  | normal =>
    obtain ⟨ρ2, hj, hs⟩ : ∃ ρ2, J ρ2 w1 ∧ Sub ρ2 ρ1 := hq
    exact fun hi a hr hd => h2 ρ2 w1 hj hi a (hr.sub hs) hd
  | _ => exact hq
omit hT in
theorem upon_mono {o : Oper} {a : Act} {K K' : Act → World → Prop} {Q Q' : Exit → Act → World → Prop} (h : ∀ a w, K a w → K' a w) (hq : ∀ e a w, Q e a w → Q' e a w) {r : Result Next} (hh : o.upon P a K Q r) : o.upon P a K' Q' r := by
  cases r with
  | ok nx w' =>
    cases nx <;> simp only [Oper.upon] at hh ⊢
    case value v => exact h _ _ hh
    case skip => exact h _ _ hh
    case defer d => exact h _ _ hh
    case enter f args =>
      refine hh.mono fun e w'' he => ?_
      cases e with
      | returned v => exact h _ _ he
      | panicked ch => exact hq _ _ _ he
      | outgrown => obtain ⟨a, w, ho⟩ := he; exact ⟨a, w, hq _ _ _ ho⟩
    case row r args => exact hh.mono fun v w'' hv => h _ _ hv
  | halt x w' =>
    cases x <;> simp only [Oper.upon] at hh ⊢
    exact hq _ _ _ hh
omit hT in
theorem wpList_mono {ops : Array Oper} {Q Q' : Exit → Act → World → Prop} (hq : ∀ e a w, Q e a w → Q' e a w) : ∀ (l : List Oper) (a : Act) (w : World), wpList P ops Q l a w → wpList P ops Q' l a w
  | [], a, w, h => hq _ _ _ h
  | o :: r, a, w, h => by
    unfold wpList at h ⊢
    split
    · rename_i hw
      rw [if_pos hw] at h
      rcases h with h | ⟨h1, a', w', h2⟩
      · exact .inl (upon_mono (fun a w => wpList_mono hq r a w) hq h)
      · exact .inr ⟨h1, a', w', hq _ _ _ h2⟩
    · rename_i hw
      rw [if_neg hw] at h
      exact wpList_mono hq r _ _ h
omit hT in
theorem wpStill_mono {ops : Array Oper} {Q Q' : Act → Prop} (hq : ∀ a, Q a → Q' a) : ∀ (l : List Oper) (a : Act), wpStill P ops w Q l a → wpStill P ops w Q' l a
  | [], a, h => hq _ h
  | o :: r, a, h => by
    unfold wpStill at h ⊢
    split
    · rename_i hw
      rw [if_pos hw] at h
      exact Oper.still_mono (fun a => wpStill_mono hq r a) h
    · rename_i hw
      rw [if_neg hw] at h
      exact wpStill_mono hq r _ h
omit hT in
/-- A join behind the region that is being walked. -/
theorem Ops.cut (J : E → World → Prop) (h1 : Ops md P n ds all (.lp (fun ρ1 w1 => ∃ ρ2, J ρ2 w1 ∧ Sub ρ2 ρ1) :: k) Φ l ρ w) (h2 : ∀ ρ w, J ρ w → W P n ds k Φ ρ w) : Ops md P n ds all k Φ l ρ w := by
  intro hi a hr hd
  have hq : ∀ e a w, lift n ds (Qof P n ds Φ (.lp (fun ρ1 w1 => ∃ ρ2, J ρ2 w1 ∧ Sub ρ2 ρ1) :: k)) e a w → lift n ds (Qof P n ds Φ k) e a w := by
    rintro e a w ⟨ρ1, hr1, hd1, hq⟩
    cases e with
    | normal =>
      obtain ⟨ρ2, hj, hs⟩ : ∃ ρ2, J ρ2 w ∧ Sub ρ2 ρ1 := hq
      exact ⟨ρ2, hr1.sub hs, hd1, h2 ρ2 w hj⟩
    | _ => exact ⟨ρ1, hr1, hd1, hq⟩
  have := h1 hi a hr hd
  cases md with
  | none => exact wpList_mono hq _ _ _ this
  | some tl => exact wpStill_mono (fun a => wpList_mono hq _ _ _) _ _ this
omit hT in
theorem kp_drew (w : World) : Kp (fun _ => False) w w.drew := ⟨rfl, rfl, rfl, Nat.le_refl _, fun _ _ _ => rfl⟩
omit hT in
theorem W.still' {id : Nat} (hm : P.follows .mixedOrders = true) (hB : Region.lexB .any l.toArray = true)
    (h : ∀ w', Kp (fun _ => False) w w' → w'.heap = w.heap → Ops (some []) P n ds l.toArray k Φ l ρ w') : W P n ds (.code (.region id l.toArray true) :: k) Φ ρ w := W.still hm hB (h _ (kp_drew w) rfl)
omit hT in
theorem W.tail' {id : Nat} (m : Nat) (hm : P.follows .mixedOrders = true) (hB : Region.lexTailB .any l.toArray m = true)
    (h : ∀ w', Kp (fun _ => False) w w' → w'.heap = w.heap → Ops (some (l.drop m)) P n ds l.toArray k Φ (l.take m) ρ w') : W P n ds (.code (.region id l.toArray true) :: k) Φ ρ w := W.tail m hm hB (h _ (kp_drew w) rfl)
/-- An element of a slice, read. -/
theorem Ops.rdS {α : Type} {enc : α → Value} {z : α} {o1 o2 : Oper} {d1 d2 t t' e : Nat} {x y : Operand} {v : Value} {i : Int} {xs : List α}
    (ho : o1.op = .indexAddr t x y) (hd1 : o1.dst = some d1) (hg1 : o1.guard = none) (ho2 : o2.op = .load t' (.tmp d1)) (hd2 : o2.dst = some d2) (hg2 : o2.guard = none)
    (ht : tyD P t = some (.slice e)) (hs : tyS P e = some 1) (ha : tyAgg P t' = some false) (hx : ev ρ x = some v) (hy : ev ρ y = some (.int .i64 i)) (hsl : Sl enc z w v xs) (h0 : 0 ≤ i) (h1 : i < xs.length)
    (hk : ∀ p, Ops md P n ds all k Φ l ((d2, enc (xs.getD i.toNat z)) :: (d1, p) :: ρ) w) : Ops md P n ds all k Φ (o1 :: o2 :: l) ρ w := by
  obtain ⟨hm, A, c, rfl, h⟩ := hsl
  obtain ⟨a, rfl, hc⟩ := h (by omega)
  refine Ops.idx ho hd1 hg1 ht hs hx hy h0 h1 ?_
  rw [Nat.mul_one]
  exact Ops.ld ho2 hd2 hg2 ha (by simp [ev, look]) (hc i.toNat (by omega)) (hk _)
/-- The same behind a guard (struck from the first one by 'Ops.yes'). -/
theorem Ops.rdSg {α : Type} {enc : α → Value} {z : α} {o1 o2 : Oper} {d1 d2 t t' e j d : Nat} {want : Bool} {x y : Operand} {v : Value} {i : Int} {xs : List α}
    (ho : o1.op = .indexAddr t x y) (hd1 : o1.dst = some d1) (hg1 : o1.guard = none) (ho2 : o2.op = .load t' (.tmp d1)) (hd2 : o2.dst = some d2) (hg2 : o2.guard = some (j, want))
    (hj : (all[j]?).bind (·.dst) = some d) (hv : look ρ d = some (.bool want)) (hne : Nat.beq d1 d = false)
    (ht : tyD P t = some (.slice e)) (hs : tyS P e = some 1) (ha : tyAgg P t' = some false) (hx : ev ρ x = some v) (hy : ev ρ y = some (.int .i64 i)) (hsl : Sl enc z w v xs) (h0 : 0 ≤ i) (h1 : i < xs.length)
    (hk : ∀ p, Ops md P n ds all k Φ l ((d2, enc (xs.getD i.toNat z)) :: (d1, p) :: ρ) w) : Ops md P n ds all k Φ (o1 :: o2 :: l) ρ w := by
  obtain ⟨hm, A, c, rfl, h⟩ := hsl
  obtain ⟨a, rfl, hc⟩ := h (by omega)
  refine Ops.idx ho hd1 hg1 ht hs hx hy h0 h1 ?_
  rw [Nat.mul_one]
  exact Ops.yes hg2 hj (by simp [look, hne, hv]) (Ops.ld (o := { o2 with guard := none }) ho2 hd2 rfl ha (by simp [ev, look]) (hc i.toNat (by omega)) (hk _))
/-- An element of a slice of the call's own, written. -/
theorem Ops.wrS {o1 o2 : Oper} {d1 t t' e m : Nat} {x y z : Operand} {v u : Value} {i : Int} {cs : List Value}
    (ho : o1.op = .indexAddr t x y) (hd1 : o1.dst = some d1) (hg1 : o1.guard = none) (ho2 : o2.op = .store t' (.tmp d1) z) (hd2 : o2.dst = none) (hg2 : o2.guard = none)
    (ht : tyD P t = some (.slice e)) (hs : tyS P e = some 1) (hs' : tyS P t' = some 1) (hx : ev ρ x = some v) (hy : ev ρ y = some (.int .i64 i)) (hz : ev ρ z = some u) (hzd : z ≠ .tmp d1) (h1c : u.oneCell' = true)
    (hown : w.ownsRow 0 e 1 v m cs) (h0 : 0 ≤ i) (h1 : i < m)
    (hk : ∀ w' p, w'.ownsRow 0 e 1 v m (cs.set i.toNat u) → Kp (fun b => v.ownBlock = some b) w w' → w'.heap.size = w.heap.size → Ops none P n ds all k Φ l ((d1, p) :: ρ) w') : Ops none P n ds all k Φ (o1 :: o2 :: l) ρ w := by
  rcases hown.2 with ⟨rfl, h0'⟩ | ⟨g, cap, cur, rfl, _, hg, hnc, _, hcs, ht'⟩
  · omega
  · refine Ops.idx ho hd1 hg1 ht hs hx hy h0 h1 ?_
    rw [Nat.mul_one, add_lit, Nat.zero_add]
    have hst := hown.stored i.toNat u
    have hz' : ev ((d1, .pointer (some ⟨g, i.toNat, none⟩)) :: ρ) z = some u := by
      cases z with
      | tmp t2 =>
        have : Nat.beq d1 t2 = false := by
          cases hb : Nat.beq d1 t2 with
          | false => rfl
          | true => exact absurd (by rw [Nat.eq_of_beq_eq_true hb]) hzd
        simp only [ev, look, this] at hz ⊢
        exact hz
      | _ => exact hz
    refine Ops.st (b := g) (q := i.toNat) (cs := cur) (t' := e) ho2 hd2 hg2 hs' (by simp [ev, look]) hz' h1c hg (by rw [hcs]; omega) (fun w' hu => hk w' _ ?_ ?_ hu.size)
    · refine ⟨by simpa using hown.1, .inr ⟨g, cap, _, rfl, Nat.zero_le _, hu.blk, hnc, by assumption, by simpa using hcs, ?_⟩⟩
      rw [Array.toList_setIfInBounds, ← ht', List.take_set]
    · exact hu.kp.mono (fun i _ e => by simp [Value.ownBlock, e])
omit hT in
theorem run_store {a : Addr} {v c : Value} (h1 : v.oneCell' = true) (hc : w.cell? a = some c) (hf : w.frozen? a = false) : (store a v).run P w = .ok () (w.setCell a v) := by
  cases v <;> simp_all [Value.oneCell', store, Sem.run]
/-- A store of two cells into a block of the call's own. -/
theorem Ops.st2 {o : Oper} {t b t' : Nat} {x y : Operand} {u v c0 c1 : Value} (ho : o.op = .store t x y) (hd : o.dst = none) (hg : o.guard = none)
    (hs : tyS P t = some 2) (hx : ev ρ x = some (.pointer (some ⟨b, 0, none⟩))) (hy : ev ρ y = some (.agg #[u, v])) (h1 : u.oneCell' = true) (h2 : v.oneCell' = true) (hb : Blk w b #[c0, c1] t')
    (hk : ∀ w', Upd w w' b #[u, v] t' → Ops none P n ds all k Φ l ρ w') : Ops none P n ds all k Φ (o :: l) ρ w := by
  have hu1 := upd_set hb 0 u
  have hu2 := upd_set hu1.blk 1 v
  refine Ops.unit hg hd (fun a hr => ?_) (hk ((w.setCell ⟨b, 0, none⟩ u).setCell ⟨b, 1, none⟩ v) ⟨by simpa using hu2.blk, (hu1.kp.trans hu2.kp).mono (fun i _ e => by rcases e with e | e <;> exact e), hu2.size.trans hu1.size⟩)
  have e0 : (⟨b, 0, none⟩ : Addr).add 0 = ⟨b, 0, none⟩ := by simp [Addr.add]
  have e1 : (⟨b, 0, none⟩ : Addr).add 1 = ⟨b, 1, none⟩ := by simp [Addr.add]
  have c0' : w.cell? ⟨b, 0, none⟩ = some c0 := hb.cell (by simp)
  have f0 : w.frozen? ⟨b, 0, none⟩ = false := by unfold Blk at hb; simp [World.frozen?, hb]
  have hb1 := hu1.blk
  have c1' : (w.setCell ⟨b, 0, none⟩ u).cell? ⟨b, 1, none⟩ = some c1 := hb1.cell (by simp)
  have f1 : (w.setCell ⟨b, 0, none⟩ u).frozen? ⟨b, 1, none⟩ = false := by unfold Blk at hb1; simp [World.frozen?, hb1]
  have r0 := run_store (P := P) h1 c0' f0
  have r1 := run_store (P := P) h2 c1' f1
  simp only [execOp, ho, hr.ev hx, hr.ev hy]
  simp [Instr.storeAt, Instr.sureAddr, storeVar, run_sizeOf hs, storeCells, Value.cells, e0, e1, r0, r1]
end
end Go.Proofs.Ytdiljpnfochndaa.VW
