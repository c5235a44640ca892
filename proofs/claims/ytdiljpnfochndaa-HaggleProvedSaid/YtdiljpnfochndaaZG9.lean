/- A part of the walk: what this seat's statements share. -/
import Derived.Test.YtdiljpnfochndaaZG8
import Derived.Test.YtdiljpnfochndaaZG7
set_option linter.unusedVariables false
set_option linter.unusedSimpArgs false
set_option linter.unusedSectionVars false
/- Drawn regions: the rules by decided guards, in an order of the prover's own; and writes at a region's end. -/
namespace Go.Proofs.Ytdiljpnfochndaa.VW
open Go Go.RowKit
section
variable {P : Program} [hT : Tab P] {n : Nat} {ds : List Deferred} {Φ : Post} {k : List It} {ρ : E} {w : World} {all : Array Oper} {l : List Oper} {md : Option (List Oper)} {s : Nat} {F : World → Prop} {π : List (Nat × Nat)} {L : List Bool}
omit hT in
theorem Ord.pure {i d : Nat} {o : Oper} {v : Value} {c : Bool} (ho : all[i]? = some o) (hd : o.dst = some d) (hg : gdB all ρ o.guard = some c) (hgc : c = true) (hΦ : ∀ c ρ w, ¬ Φ (.panic c) ρ w) (hev : ∀ w, EV P n ρ w o v)
    (h : Ord P n ds all k Φ s F π (L.set i true) ((d, v) :: ρ) w) : Ord P n ds all k Φ s F ((i, 1) :: π) L ρ w := by
  subst hgc
  exact Ord.takeY ho hd hΦ (fun a hr => .inl ⟨gdB_wanted hg hr, fun w' _ => hev w' a hr⟩) h
omit hT in
theorem Ord.read' {i d : Nat} {o : Oper} {v : Value} {c : Bool} (ho : all[i]? = some o) (hd : o.dst = some d) (hg : gdB all ρ o.guard = some c) (hgc : c = true) (hΦ : ∀ c ρ w, ¬ Φ (.panic c) ρ w) (hev : ∀ w, F w → EV P n ρ w o v)
    (h : Ord P n ds all k Φ s F π (L.set i true) ((d, v) :: ρ) w) : Ord P n ds all k Φ s F ((i, 2) :: π) L ρ w := by
  subst hgc
  exact Ord.readY ho hd hΦ (fun a hr => .inl ⟨gdB_wanted hg hr, fun w' hF => hev w' hF a hr⟩) h
omit hT in
theorem Ord.no {i d m : Nat} {o : Oper} {c : Bool} (ho : all[i]? = some o) (hd : o.dst = some d) (hg : gdB all ρ o.guard = some c) (hgc : c = false) (hΦ : ∀ c ρ w, ¬ Φ (.panic c) ρ w) (hm : m < 2)
    (h : Ord P n ds all k Φ s F π (L.set i true) ((d, undef) :: ρ) w) : Ord P n ds all k Φ s F ((i, m + 1) :: π) L ρ w := by
  subst hgc
  have : m = 0 ∨ m = 1 := by omega
  rcases this with rfl | rfl
  · exact Ord.takeY ho hd hΦ (fun a hr => .inr ⟨gdB_wanted hg hr, rfl⟩) h
  · exact Ord.readY ho hd hΦ (fun a hr => .inr ⟨gdB_wanted hg hr, rfl⟩) h
omit hT in
theorem Ord.lit {i m j g : Nat} {want b c : Bool} {o : Oper} (ho : all[i]? = some o) (hg : o.guard = some (j, want)) (hj : (all[j]?).bind (·.dst) = some g) (hv : VW.look ρ g = some (.bool b)) (hb : b = c)
    (h : Ord P n ds all k Φ s F ((i, m) :: π) L ((g, .bool c) :: ρ) w) : Ord P n ds all k Φ s F ((i, m) :: π) L ρ w := by
  intro h1 h2 h3 h4 h5 a hr hd
  refine h h1 h2 h3 h4 h5 a ⟨hr.size, fun t v hl => ?_⟩ hd
  simp only [look] at hl
  cases hb2 : Nat.beq g t with
  | true =>
    rw [hb2] at hl
    have := Nat.eq_of_beq_eq_true hb2
    subst this
    simp at hl
    rw [← hl, ← hb]
    exact hr.slot _ _ hv
  | false => rw [hb2] at hl; exact hr.slot _ _ hl
theorem Ord.rdS {α : Type} {enc : α → Value} {z : α} {i1 i2 d1 d2 t t' e : Nat} {o1 o2 : Oper} {x y : Operand} {v : Value} {i : Int} {xs : List α} {w0 : World} {c1 c2 : Bool}
    (h1 : all[i1]? = some o1) (ho : o1.op = .indexAddr t x y) (hd1 : o1.dst = some d1) (hg1 : gdB all ρ o1.guard = some c1) (hc1 : c1 = true)
    (h2 : all[i2]? = some o2) (ho2 : o2.op = .load t' (.tmp d1)) (hd2 : o2.dst = some d2) (hg2 : ∀ p, gdB all ((d1, .pointer p) :: ρ) o2.guard = some c2) (hc2 : c2 = true)
    (ht : tyD P t = some (.slice e)) (hs : tyS P e = some 1) (ha : tyAgg P t' = some false) (hx : ev ρ x = some v) (hy : ev ρ y = some (.int .i64 i)) (hsl : Sl enc z w0 v xs) (hF : ∀ w, F w → Below w0.heap.size w0 w) (h0 : 0 ≤ i) (hi : i < xs.length)
    (hΦ : ∀ c ρ w, ¬ Φ (.panic c) ρ w) (hk : ∀ p, Ord P n ds all k Φ s F π ((L.set i1 true).set i2 true) ((d2, enc (xs.getD i.toNat z)) :: (d1, p) :: ρ) w) : Ord P n ds all k Φ s F ((i1, 1) :: (i2, 2) :: π) L ρ w := by
  obtain ⟨hm, A, c, rfl, h⟩ := hsl
  obtain ⟨a, rfl, hc⟩ := h (by omega)
  refine Ord.pure h1 hd1 hg1 hc1 hΦ (fun w => EV.idx ho ht hs hx hy h0 hi) ?_
  rw [Nat.mul_one]
  exact Ord.read' h2 hd2 (hg2 _) hc2 hΦ (fun w hw => EV.ld ho2 ha (ev_top _ _ _) (cell_kp (Kp.of_below (S := fun _ => False) (hF w hw)) (hc i.toNat (by omega)) (fun e => e))) (hk _)
theorem Ord.rdSn {α : Type} {enc : α → Value} {z : α} {i1 i2 d1 d2 t t' e : Nat} {o1 o2 : Oper} {x y : Operand} {v : Value} {i : Nat} {xs : List α} {w0 : World} {c1 c2 : Bool}
    (h1 : all[i1]? = some o1) (ho : o1.op = .indexAddr t x y) (hd1 : o1.dst = some d1) (hg1 : gdB all ρ o1.guard = some c1) (hc1 : c1 = true)
    (h2 : all[i2]? = some o2) (ho2 : o2.op = .load t' (.tmp d1)) (hd2 : o2.dst = some d2) (hg2 : ∀ p, gdB all ((d1, .pointer p) :: ρ) o2.guard = some c2) (hc2 : c2 = true)
    (ht : tyD P t = some (.slice e)) (hs : tyS P e = some 1) (ha : tyAgg P t' = some false) (hx : ev ρ x = some v) (hy : ev ρ y = some (.int .i64 (i : Int))) (hsl : Sl enc z w0 v xs) (hF : ∀ w, F w → Below w0.heap.size w0 w) (hi : i < xs.length)
    (hΦ : ∀ c ρ w, ¬ Φ (.panic c) ρ w) (hk : ∀ p, Ord P n ds all k Φ s F π ((L.set i1 true).set i2 true) ((d2, enc (xs.getD i z)) :: (d1, p) :: ρ) w) : Ord P n ds all k Φ s F ((i1, 1) :: (i2, 2) :: π) L ρ w :=
  Ord.rdS h1 ho hd1 hg1 hc1 h2 ho2 hd2 hg2 hc2 ht hs ha hx hy hsl hF (by omega) (by omega) hΦ hk
/-- A store into a slice of the call's own, whose address is known. -/
theorem Ops.stO {α : Type} {enc : α → Value} {w0 : World} {o2 : Oper} {d1 t' e : Nat} {z : Operand} {v : Value} {u : α} {i : Nat} {os : List α} {a : Addr} {m c : Nat}
    (ho2 : o2.op = .store t' (.tmp d1) z) (hd2 : o2.dst = none) (hg2 : o2.guard = none) (hs' : tyS P t' = some 1) (hv : v = .slice (some a) m c) (hx : ev ρ (.tmp d1) = some (.pointer (some (a.add (i * 1))))) (hz : ev ρ z = some (enc u)) (h1c : (enc u).oneCell' = true)
    (hO : OI e enc w0 w v os) (h1 : i < os.length)
    (hk : ∀ w', OI e enc w0 w' v (os.set i u) → Kp (fun b => v.ownBlock = some b) w w' → w'.heap.size = w.heap.size → Ops none P n ds all k Φ l ρ w') : Ops none P n ds all k Φ (o2 :: l) ρ w := by
  subst hv
  have hown := hO.own
  rcases hown.2 with ⟨h2, _⟩ | ⟨g, cap, cur, h2, _, hg, hnc, hx2, hcs, ht'⟩
  · cases h2
  · cases h2
    have hst := hown.stored i (enc u)
    rw [add_lit, Nat.zero_add, Nat.mul_one] at hx
    refine Ops.st (b := g) (q := i) (cs := cur) (t' := e) ho2 hd2 hg2 hs' hx hz h1c hg (by rw [hcs]; omega) (fun w' hu => hk w' ⟨Below.put hO.bel (hu.kp.mono (S' := fun b => (Value.slice (some ⟨g, 0, none⟩) os.length c).ownBlock = some b) (fun i _ e => by simp [Value.ownBlock, e])) (fun i hi => hO.ge i hi), ?_, hO.ge⟩ ?_ hu.size)
    · refine ⟨by simp, .inr ⟨g, c, _, by rw [List.length_set], Nat.zero_le _, hu.blk, by simpa using hnc, by simpa using hx2, by simpa using hcs, ?_⟩⟩
      rw [Array.toList_setIfInBounds, List.length_set, List.map_set, ← ht', List.take_set]
    · exact hu.kp.mono (fun i _ e => by simp [Value.ownBlock, e])
omit hT in
theorem Qof.mono_lp' {J J' : E → World → Prop} (h : ∀ ρ w, J ρ w → J' ρ w) {o : Oper} (hh : Ops none P n ds all (.lp J :: k) Φ [o] ρ w) : Ops none P n ds all (.lp J' :: k) Φ [o] ρ w := by
  intro hi a hr hd
  refine wpList_mono (fun e a w hl => ?_) _ _ _ (hh hi a hr hd)
  obtain ⟨ρ1, hr1, hd1, hq⟩ := hl
  exact ⟨ρ1, hr1, hd1, Qof.mono_lp h e ρ1 w hq⟩
omit hT in
/-- An operation at the end of a region, alone. -/
theorem Ord.effT {i : Nat} {o : Oper} (ho : all[i]? = some o) (h : Ops none P n ds all (.lp (fun ρ1 w1 => Ord P n ds all k Φ 9999 (fun _ => True) π (L.set i true) ρ1 w1) :: k) Φ [o] ρ w) : Ord P n ds all k Φ 9999 (fun _ => True) ((i, 0) :: π) L ρ w :=
  Ord.eff ho (Qof.mono_lp' (fun ρ w hJ => ⟨fun _ => trivial, hJ⟩) h)
omit hT in
/-- An operation behind which F still stands. -/
theorem Ord.effF {i : Nat} {o : Oper} (ho : all[i]? = some o) (h : Ops none P n ds all (.lp (fun ρ1 w1 => F w1 ∧ Ord P n ds all k Φ s F π (L.set i true) ρ1 w1) :: k) Φ [o] ρ w) : Ord P n ds all k Φ s F ((i, 0) :: π) L ρ w :=
  Ord.eff ho (Qof.mono_lp' (fun ρ w hJ => ⟨fun _ => hJ.1, hJ.2⟩) h)
omit hT in
theorem OrdA.eff {o : Oper} (ho : all[s]? = some o) (h : ∀ w, F w → Ops none P n ds all (.lp (fun ρ1 w1 => Ord P n ds all k Φ 9999 (fun _ => True) π (L.set s true) ρ1 w1) :: k) Φ [o] ρ w) : OrdA P n ds all k Φ s F ((s, 0) :: π) L ρ :=
  OrdA.tail fun w hw => Ord.effT ho (h w hw)
/-- An element is written at the end of a region. -/
theorem OrdA.wrO {α : Type} {enc : α → Value} {w0 wr : World} {i1 d1 t t' e : Nat} {o1 o2 : Oper} {x y z : Operand} {v : Value} {u : α} {i : Int} {os : List α} {c1 : Bool}
    (h1 : all[i1]? = some o1) (ho : o1.op = .indexAddr t x y) (hd1 : o1.dst = some d1) (hg1 : gdB all ρ o1.guard = some c1) (hc1 : c1 = true) (h2 : all[s]? = some o2) (ho2 : o2.op = .store t' (.tmp d1) z) (hd2 : o2.dst = none) (hg2 : o2.guard = none)
    (ht : tyD P t = some (.slice e)) (hs : tyS P e = some 1) (hs' : tyS P t' = some 1) (hx : ev ρ x = some v) (hy : ev ρ y = some (.int .i64 i)) (hz : ∀ p, ev ((d1, .pointer p) :: ρ) z = some (enc u)) (h1c : (enc u).oneCell' = true)
    (hO : OI e enc w0 wr v os) (hF : ∀ w, F w → Below wr.heap.size wr w) (h0 : 0 ≤ i) (hi : i < os.length)
    (hk : ∀ w w' p, F w → OI e enc w0 w' v (os.set i.toNat u) → Kp (fun b => v.ownBlock = some b) w w' → w'.heap.size = w.heap.size → Ord P n ds all k Φ 9999 (fun _ => True) π ((L.set i1 true).set s true) ((d1, p) :: ρ) w') : OrdA P n ds all k Φ s F ((i1, 1) :: (s, 0) :: π) L ρ := by
  obtain ⟨A, c, rfl⟩ := hO.sh
  have hA : ∃ a, A = some a := by
    cases A with
    | some a => exact ⟨a, rfl⟩
    | none =>
      rcases hO.own.2 with ⟨h2, h3⟩ | ⟨g, cap, cur, h2, _⟩
      · omega
      · cases h2
  obtain ⟨a, rfl⟩ := hA
  refine OrdA.pure h1 hd1 hg1 hc1 (fun w => EV.idx ho ht hs hx hy h0 hi) (OrdA.eff h2 fun w hw => ?_)
  exact Ops.stO (i := i.toNat) ho2 hd2 hg2 hs' rfl (ev_top _ _ _) (hz _) h1c (hO.below (hF w hw)) (by omega) (fun w' hO' k1 hsz => Ops.nil (W.endl (hk w w' _ hw hO' k1 hsz)))
end
end Go.Proofs.Ytdiljpnfochndaa.VW
/- The statements about proofs: what is decided, and by how many leaves. -/
namespace Go.Proofs.Ytdiljpnfochndaa.HP
theorem tree_ind {l : List Nd} {dep : List Int} (hT : TF l dep) {Q : Nat → Prop}
    (h : ∀ j : Nat, j < l.length → (∀ c ∈ kid l j, ∃ i : Nat, c = i ∧ i < l.length ∧ Q i) → Q j) : ∀ j : Nat, j < l.length → Q j := by
  have key : ∀ d j : Nat, l.length - j = d → j < l.length → Q j := by
    intro d
    induction d using Nat.strongRecOn with
    | _ d ih =>
      intro j hd hj
      refine h j hj fun c hc => ?_
      obtain ⟨h1, h2⟩ := mem_kid hT hj hc
      exact ⟨c.toNat, by omega, by omega, ih (l.length - c.toNat) (by omega) c.toNat rfl (by omega)⟩
  exact fun j hj => key _ j rfl hj
theorem maxL_le {cs : List Int} {g : Int → Int} {b : Int} (h0 : cs ≠ []) : maxL (cs.map g) ≤ b ↔ ∀ c ∈ cs, g c ≤ b := by
  have := maxL_ge (g := g) (b := b + 1) h0
  constructor
  · intro h c hc
    rcases Int.lt_or_le b (g c) with h1 | h1
    · have := this.2 ⟨c, hc, h1⟩; omega
    · exact h1
  · intro h
    rcases Int.lt_or_le b (maxL (cs.map g)) with h1 | h1
    · obtain ⟨c, hc, h2⟩ := this.1 h1
      have := h c hc
      omega
    · exact h1
theorem minL_le {cs : List Int} {g : Int → Int} {b : Int} (h0 : cs ≠ []) : minL (cs.map g) ≤ b ↔ ∃ c ∈ cs, g c ≤ b := by
  have := minL_ge (g := g) (b := b + 1) h0
  constructor
  · intro h
    by_cases hx : ∃ c ∈ cs, g c ≤ b
    · exact hx
    · have := this.2 fun c hc => by
        rcases Int.lt_or_le b (g c) with h1 | h1
        · exact h1
        · exact absurd ⟨c, hc, h1⟩ hx
      omega
  · rintro ⟨c, hc, h⟩
    rcases Int.lt_or_le b (minL (cs.map g)) with h1 | h1
    · have := this.1 h1 c hc; omega
    · exact h1
theorem leaf_ne {l : List Nd} {j : Int} (h : ¬ leafB l j = true) : kid l j ≠ [] := fun e => h (by unfold leafB; rw [e]; rfl)
theorem val_thr {l : List Nd} {dep : List Int} (hT : TF l dep) {f g : Int → Int} {vs us : List Int} (hv : ValP l dep f vs) (hu : ValP l dep g us) {b c : Int} (h : ∀ i : Nat, i < l.length → leafB l i = true → (b ≤ f i ↔ c ≤ g i)) :
    ∀ j : Nat, j < l.length → (b ≤ vs.getD j 0 ↔ c ≤ us.getD j 0) := by
  refine tree_ind hT (Q := fun j => (b ≤ vs.getD j 0 ↔ c ≤ us.getD j 0)) fun j hj hk => ?_
  have kD : ∀ x ∈ kid l j, (b ≤ rd vs x ↔ c ≤ rd us x) := fun x hx => by obtain ⟨i, rfl, hi, h⟩ := hk x hx; exact h
  rw [hv.at_ j hj, hu.at_ j hj]
  unfold NV
  by_cases hl : leafB l j = true
  · rw [if_pos hl, if_pos hl]; exact h j hj hl
  · have hne := leaf_ne hl
    rw [if_neg hl, if_neg hl]
    by_cases he : evB dep j = true
    · rw [if_pos he, if_pos he, maxL_ge hne, maxL_ge hne]
      exact ⟨fun ⟨x, hx, e⟩ => ⟨x, hx, (kD x hx).1 e⟩, fun ⟨x, hx, e⟩ => ⟨x, hx, (kD x hx).2 e⟩⟩
    · rw [if_neg he, if_neg he, minL_ge hne, minL_ge hne]
      exact ⟨fun e x hx => (kD x hx).1 (e x hx), fun e x hx => (kD x hx).2 (e x hx)⟩
/-! ### The reference's count -/
abbrev farR : Int := 1000000
def sumL : List Int → Int
  | [] => 0
  | x :: r => x + sumL r
def sumC : List Int → Int
  | [] => 0
  | x :: r => r.foldl (fun a n => min farR (n + a)) x
def RN (l : List Nd) (dep : List Int) (mx : Bool) (al : Int → Int) (rs : List Int) (j : Int) : Int :=
  if leafB l j then al j else if evB dep j == mx then minL ((kid l j).map (rd rs)) else sumC ((kid l j).map (rd rs))
structure RNeedP (l : List Nd) (dep : List Int) (mx : Bool) (al : Int → Int) (rs : List Int) : Prop where
  len : rs.length = l.length
  at_ : ∀ j : Nat, j < l.length → rs.getD j 0 = RN l dep mx al rs j
theorem RN_congr {l : List Nd} {dep : List Int} (h : TF l dep) {i : Nat} (hi : i < l.length) {mx : Bool} {al : Int → Int} {vs us : List Int} (he : ∀ j : Nat, i < j → j < l.length → vs.getD j 0 = us.getD j 0) : RN l dep mx al vs i = RN l dep mx al us i := by
  unfold RN
  rw [map_rd_congr h hi he]
theorem rn_set {l : List Nd} {dep : List Int} (h : TF l dep) {mx : Bool} {al : Int → Int} {os : List Int} {q : Nat} (hq : q < l.length) (hol : os.length = l.length) {x : Int} (hx : x = RN l dep mx al os q) (hval : ∀ j : Nat, q + 1 ≤ j → j < l.length → os.getD j 0 = RN l dep mx al os j) :
    ∀ j : Nat, q ≤ j → j < l.length → (os.set q x).getD j 0 = RN l dep mx al (os.set q x) j := by
  intro j h1 h2
  have hc : RN l dep mx al (os.set q x) j = RN l dep mx al os j := RN_congr h h2 fun i hi hil => getD_set_ne (by omega)
  rw [hc]
  by_cases e : q = j
  · subst e; rw [getD_set_eq (by omega)]; exact hx
  · rw [getD_set_ne e]; exact hval j (by omega) h2
theorem sumL_nn : ∀ {xs : List Int}, (∀ x ∈ xs, 0 ≤ x) → 0 ≤ sumL xs
  | [], _ => Int.le_refl _
  | x :: r, h => by have := h x (by simp); have := sumL_nn (xs := r) fun y hy => h y (by simp [hy]); simp only [sumL]; omega
theorem sumL_mem : ∀ {xs : List Int}, (∀ x ∈ xs, 0 ≤ x) → ∀ x ∈ xs, x ≤ sumL xs
  | [], _, x, hx => by simp at hx
  | y :: r, h, x, hx => by
    have h0 := h y (by simp)
    have h1 := sumL_nn (xs := r) fun y hy => h y (by simp [hy])
    simp only [sumL]
    rcases List.mem_cons.1 hx with rfl | hx
    · omega
    · have := sumL_mem (xs := r) (fun y hy => h y (by simp [hy])) x hx; omega
theorem cap_sum (K : Int) (f : Int → Int → Int) (hf : ∀ a n, f a n = min K (a + n)) : ∀ (xs : List Int) (a : Int), a ≤ K → (∀ x ∈ xs, 0 ≤ x) → xs.foldl f a = min K (a + sumL xs)
  | [], a, ha, _ => by simp only [List.foldl_nil, sumL]; omega
  | x :: r, a, ha, h => by
    have h0 := h x (by simp)
    have h1 := sumL_nn (xs := r) fun y hy => h y (by simp [hy])
    rw [List.foldl_cons, cap_sum K f hf r _ (by rw [hf]; omega) (fun y hy => h y (by simp [hy])), hf]
    simp only [sumL]
    omega
theorem sumC_eq {xs : List Int} (h : ∀ x ∈ xs, 0 ≤ x ∧ x ≤ farR) : sumC xs = min farR (sumL xs) := by
  cases xs with
  | nil => rfl
  | cons x r =>
    have h0 := h x (by simp)
    simp only [sumC, sumL]
    rw [cap_sum farR _ (fun a n => by omega) r x h0.2 (fun y hy => (h y (by simp [hy])).1)]
theorem join_fst {es : List Ef} : ∀ (cs : List Int) (a : Ef), (cs.foldl (joinF es) a).1 = (cs.map fun c => (ed es c).1).foldl (fun a n => min far (a + n)) a.1
  | [], _ => rfl
  | c :: r, a => by rw [List.foldl_cons, join_fst r, List.map_cons, List.foldl_cons]; rfl
theorem sumL_congr {f g : Int → Int} : ∀ (cs : List Int), (∀ c ∈ cs, f c = g c) → sumL (cs.map f) = sumL (cs.map g)
  | [], _ => rfl
  | c :: r, h => by simp only [List.map_cons, sumL]; rw [h c (by simp), sumL_congr r fun x hx => h x (by simp [hx])]
theorem ref_need {l : List Nd} {dep : List Int} {mx : Bool} {lf al : Int → Int} {es : List Ef} {rs : List Int} (hT : TF l dep) (hE : NeedP l dep mx lf es) (hR : RNeedP l dep mx al rs) (h3 : ∀ i : Nat, leafB l i = true → lf i = 0 ∨ lf i = 1 ∨ lf i = far)
    (hal : ∀ i : Nat, i < l.length → leafB l i = true → (lf i < far → al i = lf i) ∧ (lf i = far → al i = farR)) :
    ∀ j : Nat, j < l.length → ((es.getD j (0, [])).1 < far → rs.getD j 0 = (es.getD j (0, [])).1) ∧ ((es.getD j (0, [])).1 = far → rs.getD j 0 = farR) := by
  have sE := need_small hT hE h3
  refine tree_ind hT (Q := fun j => ((es.getD j (0, [])).1 < far → rs.getD j 0 = (es.getD j (0, [])).1) ∧ ((es.getD j (0, [])).1 = far → rs.getD j 0 = farR)) fun j hj hk => ?_
  have kE : ∀ c ∈ kid l j, GoodE l c (ed es c).2 ∧ Small l (ed es c) := fun c hc => by obtain ⟨i, rfl, hi, _⟩ := hk c hc; exact sE i hi
  have kR : ∀ c ∈ kid l j, ((ed es c).1 < far → rd rs c = (ed es c).1) ∧ ((ed es c).1 = far → rd rs c = farR) := fun c hc => by obtain ⟨i, rfl, hi, h⟩ := hk c hc; exact h
  have k60 : ∀ c ∈ kid l j, (ed es c).1 < far → (ed es c).1 ≤ 60 := fun c hc h => small60 hT (kE c hc).1 (kE c hc).2 h
  have kb : ∀ c ∈ kid l j, 0 ≤ rd rs c ∧ rd rs c ≤ farR := fun c hc => by
    have h1 := (kE c hc).2.lo
    have h2 := (kE c hc).2.hi
    rcases Int.lt_or_le (ed es c).1 far with h | h
    · have := k60 c hc h; rw [(kR c hc).1 h]; simp only [farR]; omega
    · rw [(kR c hc).2 (by omega)]; exact ⟨by decide, by decide⟩
  have hj60 : (es.getD j (0, [])).1 < far → (es.getD j (0, [])).1 ≤ 60 := fun h => small60 hT (sE j hj).1 (sE j hj).2 h
  rw [hE.at_ j hj] at hj60 ⊢
  rw [hR.at_ j hj]
  unfold NE at hj60 ⊢
  unfold RN
  by_cases hl : leafB l j = true
  · rw [if_pos hl, if_pos hl]; exact hal j hj hl
  · have hne := leaf_ne hl
    rw [if_neg hl] at hj60 ⊢
    rw [if_neg hl]
    by_cases he : (evB dep j == mx) = true
    · rw [if_pos he] at hj60 ⊢
      rw [if_pos he]
      obtain ⟨_, h2, h3⟩ := pick_le (es := es) (kid l j) (far, [])
      refine ⟨fun hlt => ?_, fun hf => ?_⟩
      · have h60 := hj60 hlt
        rcases h3 with h3 | ⟨c, hc, h3⟩
        · rw [h3] at hlt; simp at hlt
        · have hge : ((kid l j).foldl (pickF es) (far, [])).1 ≤ minL ((kid l j).map (rd rs)) := (minL_ge hne).2 fun x hx => by
            have := h2 x hx
            rcases Int.lt_or_le (ed es x).1 far with h | h
            · rw [(kR x hx).1 h]; exact this
            · rw [(kR x hx).2 (by have := (kE x hx).2.hi; omega)]; simp only [farR]; omega
          have hle : minL ((kid l j).map (rd rs)) ≤ ((kid l j).foldl (pickF es) (far, [])).1 := (minL_le hne).2 ⟨c, hc, by rw [h3] at hlt ⊢; rw [(kR c hc).1 hlt]; exact Int.le_refl _⟩
          omega
      · have hall := (pickFar fun c hc => (kE c hc).2.hi).1 hf
        have hge : farR ≤ minL ((kid l j).map (rd rs)) := (minL_ge hne).2 fun x hx => by rw [(kR x hx).2 (hall x hx)]; exact Int.le_refl _
        obtain ⟨c, hc⟩ := List.exists_mem_of_ne_nil _ hne
        have hle : minL ((kid l j).map (rd rs)) ≤ farR := (minL_le hne).2 ⟨c, hc, (kb c hc).2⟩
        omega
    · rw [if_neg he] at hj60 ⊢
      rw [if_neg he]
      have hjs := join_fst (es := es) (kid l j) (0, [])
      rw [cap_sum far _ (fun a n => rfl) _ _ (by decide) (fun x hx => by obtain ⟨c, hc, rfl⟩ := List.mem_map.1 hx; exact (kE c hc).2.lo)] at hjs
      have hsc := sumC_eq (xs := (kid l j).map (rd rs)) fun x hx => by obtain ⟨c, hc, rfl⟩ := List.mem_map.1 hx; exact kb c hc
      refine ⟨fun hlt => ?_, fun hf => ?_⟩
      · have h60 := hj60 hlt
        obtain ⟨_, h2, _⟩ := join_sum (es := es) (kid l j) (0, []) (by decide) (by decide) fun c hc => ⟨(kE c hc).2.lo, (kE c hc).2.hi⟩
        have := sumL_congr (f := rd rs) (g := fun c => (ed es c).1) (kid l j) fun c hc => (kR c hc).1 (Int.lt_of_le_of_lt (h2 c hc) hlt)
        rw [hsc, this]
        simp only [farR, far] at *
        omega
      · obtain ⟨c, hc, e⟩ := (joinFar hT hj kE).1 hf
        have := sumL_mem (xs := (kid l j).map (rd rs)) (fun x hx => by obtain ⟨c, hc, rfl⟩ := List.mem_map.1 hx; exact (kb c hc).1) (rd rs c) (List.mem_map.2 ⟨c, hc, rfl⟩)
        rw [(kR c hc).2 e] at this
        rw [hsc]
        omega
/-! ### Lists of an effort -/
theorem join_mem {es : List Ef} {x : Int} : ∀ (cs : List Int) (a : Ef), x ∈ (cs.foldl (joinF es) a).2 ↔ x ∈ a.2 ∨ ∃ c ∈ cs, x ∈ (ed es c).2
  | [], a => by simp
  | c :: r, a => by
    rw [List.foldl_cons, join_mem r]
    simp only [joinF, List.mem_append, List.mem_cons, exists_eq_or_imp, or_assoc]
theorem proof_ge {l : List Nd} {dep : List Int} {lf wf : Int → Int} {es : List Ef} {vs : List Int} {b : Int} {S : List Int} (hT : TF l dep) (hE : NeedP l dep true lf es) (hv : ValP l dep wf vs) (h3 : ∀ i : Nat, leafB l i = true → lf i = 0 ∨ lf i = 1 ∨ lf i = far)
    (h : ∀ i : Nat, i < l.length → leafB l i = true → lf i < far → (i : Int) ∈ S → b ≤ wf i) : ∀ j : Nat, j < l.length → (es.getD j (0, [])).1 < far → (∀ x ∈ (es.getD j (0, [])).2, x ∈ S) → b ≤ vs.getD j 0 := by
  have sE := need_small hT hE h3
  refine tree_ind hT (Q := fun j => (es.getD j (0, [])).1 < far → (∀ x ∈ (es.getD j (0, [])).2, x ∈ S) → b ≤ vs.getD j 0) fun j hj hk => ?_
  have kE : ∀ c ∈ kid l j, GoodE l c (ed es c).2 ∧ Small l (ed es c) := fun c hc => by obtain ⟨i, rfl, hi, _⟩ := hk c hc; exact sE i hi
  have kD : ∀ c ∈ kid l j, (ed es c).1 < far → (∀ x ∈ (ed es c).2, x ∈ S) → b ≤ rd vs c := fun c hc => by obtain ⟨i, rfl, hi, h⟩ := hk c hc; exact h
  rw [hE.at_ j hj, hv.at_ j hj]
  unfold NE NV
  by_cases hl : leafB l j = true
  · rw [if_pos hl, if_pos hl]
    exact fun h1 h2 => h j hj hl h1 (h2 _ (by simp))
  · have hne := leaf_ne hl
    rw [if_neg hl, if_neg hl]
    by_cases he : evB dep j = true
    · rw [if_pos (by rw [he]; rfl), if_pos he, maxL_ge hne]
      intro h1 h2
      obtain ⟨_, _, q⟩ := pick_le (es := es) (kid l j) (far, [])
      rcases q with q | ⟨c, hc, q⟩
      · rw [q] at h1; simp at h1
      · rw [q] at h1 h2; exact ⟨c, hc, kD c hc h1 h2⟩
    · rw [if_neg (by simpa using he), if_neg he, minL_ge hne]
      intro h1 h2 c hc
      obtain ⟨_, q, _⟩ := join_sum (es := es) (kid l j) (0, []) (by decide) (by decide) fun c hc => ⟨(kE c hc).2.lo, (kE c hc).2.hi⟩
      exact kD c hc (Int.lt_of_le_of_lt (q c hc) h1) fun x hx => h2 x ((join_mem _ _).2 (.inr ⟨c, hc, hx⟩))
theorem refute_le {l : List Nd} {dep : List Int} {lf wf : Int → Int} {es : List Ef} {vs : List Int} {b : Int} {S : List Int} (hT : TF l dep) (hE : NeedP l dep false lf es) (hv : ValP l dep wf vs) (h3 : ∀ i : Nat, leafB l i = true → lf i = 0 ∨ lf i = 1 ∨ lf i = far)
    (h : ∀ i : Nat, i < l.length → leafB l i = true → lf i < far → (i : Int) ∈ S → wf i ≤ b) : ∀ j : Nat, j < l.length → (es.getD j (0, [])).1 < far → (∀ x ∈ (es.getD j (0, [])).2, x ∈ S) → vs.getD j 0 ≤ b := by
  have sE := need_small hT hE h3
  refine tree_ind hT (Q := fun j => (es.getD j (0, [])).1 < far → (∀ x ∈ (es.getD j (0, [])).2, x ∈ S) → vs.getD j 0 ≤ b) fun j hj hk => ?_
  have kE : ∀ c ∈ kid l j, GoodE l c (ed es c).2 ∧ Small l (ed es c) := fun c hc => by obtain ⟨i, rfl, hi, _⟩ := hk c hc; exact sE i hi
  have kD : ∀ c ∈ kid l j, (ed es c).1 < far → (∀ x ∈ (ed es c).2, x ∈ S) → rd vs c ≤ b := fun c hc => by obtain ⟨i, rfl, hi, h⟩ := hk c hc; exact h
  rw [hE.at_ j hj, hv.at_ j hj]
  unfold NE NV
  by_cases hl : leafB l j = true
  · rw [if_pos hl, if_pos hl]
    exact fun h1 h2 => h j hj hl h1 (h2 _ (by simp))
  · have hne := leaf_ne hl
    rw [if_neg hl, if_neg hl]
    by_cases he : evB dep j = true
    · rw [if_neg (by rw [he]; simp), if_pos he, maxL_le hne]
      intro h1 h2 c hc
      obtain ⟨_, q, _⟩ := join_sum (es := es) (kid l j) (0, []) (by decide) (by decide) fun c hc => ⟨(kE c hc).2.lo, (kE c hc).2.hi⟩
      exact kD c hc (Int.lt_of_le_of_lt (q c hc) h1) fun x hx => h2 x ((join_mem _ _).2 (.inr ⟨c, hc, hx⟩))
    · have he' : evB dep j = false := by simpa using he
      rw [if_pos (by rw [he']; rfl), if_neg he, minL_le hne]
      intro h1 h2
      obtain ⟨_, _, q⟩ := pick_le (es := es) (kid l j) (far, [])
      rcases q with q | ⟨c, hc, q⟩
      · rw [q] at h1; simp at h1
      · rw [q] at h1 h2; exact ⟨c, hc, kD c hc h1 h2⟩
/-- The lists are as long as the efforts. -/
theorem need_len {l : List Nd} {dep : List Int} {mx : Bool} {lf : Int → Int} {es : List Ef} (hT : TF l dep) (hE : NeedP l dep mx lf es) (h3 : ∀ i : Nat, leafB l i = true → lf i = 1 ∨ lf i = far) :
    ∀ j : Nat, j < l.length → (es.getD j (0, [])).1 < far → (es.getD j (0, [])).1 = (es.getD j (0, [])).2.length := by
  have sE := need_small hT hE fun i hl => .inr (h3 i hl)
  refine tree_ind hT (Q := fun j => (es.getD j (0, [])).1 < far → (es.getD j (0, [])).1 = (es.getD j (0, [])).2.length) fun j hj hk => ?_
  have kE : ∀ c ∈ kid l j, GoodE l c (ed es c).2 ∧ Small l (ed es c) := fun c hc => by obtain ⟨i, rfl, hi, _⟩ := hk c hc; exact sE i hi
  have kD : ∀ c ∈ kid l j, (ed es c).1 < far → (ed es c).1 = (ed es c).2.length := fun c hc => by obtain ⟨i, rfl, hi, h⟩ := hk c hc; exact h
  rw [hE.at_ j hj]
  unfold NE
  by_cases hl : leafB l j = true
  · rw [if_pos hl]
    intro h1
    rcases h3 j hl with e | e <;> simp only [e] at h1 ⊢ <;> simp at h1 ⊢
  · rw [if_neg hl]
    by_cases he : (evB dep j == mx) = true
    · rw [if_pos he]
      intro h1
      obtain ⟨_, _, q⟩ := pick_le (es := es) (kid l j) (far, [])
      rcases q with q | ⟨c, hc, q⟩
      · rw [q] at h1; simp at h1
      · rw [q] at h1 ⊢; exact kD c hc h1
    · rw [if_neg he]
      intro h1
      obtain ⟨_, q, _⟩ := join_sum (es := es) (kid l j) (0, []) (by decide) (by decide) fun c hc => ⟨(kE c hc).2.lo, (kE c hc).2.hi⟩
      have hlt : ∀ c ∈ kid l j, (ed es c).1 < far := fun c hc => Int.lt_of_le_of_lt (q c hc) h1
      have : ∀ (cs : List Int) (a : Ef), (∀ c ∈ cs, c ∈ kid l j) → a.1 = a.2.length → (cs.foldl (joinF es) a).1 < far → (cs.foldl (joinF es) a).1 = (cs.foldl (joinF es) a).2.length := by
        intro cs
        induction cs with
        | nil => intro a _ ha _; exact ha
        | cons c r ih =>
          intro a hc ha h1
          rw [List.foldl_cons] at h1 ⊢
          refine ih _ (fun x hx => hc x (by simp [hx])) ?_ h1
          have hs := join_sum (es := es) r (joinF es a c) (by simp only [joinF]; have := (kE c (hc c (by simp))).2.lo; simp only [far]; omega) (by simp only [joinF]; omega) fun x hx => ⟨(kE x (hc x (by simp [hx]))).2.lo, (kE x (hc x (by simp [hx]))).2.hi⟩
          have h2 : (joinF es a c).1 < far := Int.lt_of_le_of_lt hs.1 h1
          have h4 := kD c (hc c (by simp)) (hlt c (hc c (by simp)))
          simp only [joinF, List.length_append] at h2 ⊢
          omega
      exact this _ _ (fun c h => h) (by simp) h1
theorem join_len {es es' : List Ef} : ∀ (cs : List Int) (a a' : Ef), (∀ c ∈ cs, (ed es c).1 ≤ (ed es' c).2.length) → a.1 ≤ a'.2.length → (cs.foldl (joinF es) a).1 ≤ (cs.foldl (joinF es') a').2.length
  | [], _, _, _, h => h
  | c :: r, a, a', hc, h => by
    have := hc c (by simp)
    refine join_len r _ _ (fun x hx => hc x (by simp [hx])) ?_
    simp only [joinF, List.length_append]
    omega
/-- Whoever decides has as many leaves. -/
theorem proof_min {l : List Nd} {dep : List Int} {lf wf : Int → Int} {es : List Ef} {vs : List Int} {b : Int} {S : List Int} (hT : TF l dep) (hE : NeedP l dep true lf es) (hv : ValP l dep wf vs)
    (h : ∀ i : Nat, i < l.length → leafB l i = true → b ≤ wf i → (i : Int) ∈ S ∧ lf i ≤ 1) : ∀ j : Nat, j < l.length → b ≤ vs.getD j 0 → ∃ ys, GoodE l j ys ∧ (∀ x ∈ ys, x ∈ S) ∧ (es.getD j (0, [])).1 ≤ ys.length := by
  refine tree_ind hT (Q := fun j => b ≤ vs.getD j 0 → ∃ ys, GoodE l j ys ∧ (∀ x ∈ ys, x ∈ S) ∧ (es.getD j (0, [])).1 ≤ ys.length) fun j hj hk => ?_
  rw [hE.at_ j hj, hv.at_ j hj]
  unfold NE NV
  by_cases hl : leafB l j = true
  · rw [if_pos hl, if_pos hl]
    intro h1
    obtain ⟨q1, q2⟩ := h j hj hl h1
    refine ⟨[(j : Int)], ⟨fun x hx => ?_, by simp⟩, fun x hx => by simp at hx; rw [hx]; exact q1, by simpa using q2⟩
    simp at hx
    subst hx
    exact ⟨by omega, by omega, hl, 0, rfl⟩
  · have hne := leaf_ne hl
    rw [if_neg hl, if_neg hl]
    by_cases he : evB dep j = true
    · rw [if_pos he, if_pos (by rw [he]; rfl), maxL_ge hne]
      rintro ⟨c, hc, h1⟩
      obtain ⟨i, rfl, hi, hq⟩ := hk c hc
      obtain ⟨ys, hg, hs, hle⟩ := hq h1
      exact ⟨ys, hg.up hc, hs, Int.le_trans ((pick_le (es := es) (kid l j) (far, [])).2.1 _ hc) hle⟩
    · rw [if_neg he, if_neg (by simpa using he), minL_ge hne]
      intro h1
      have hx : ∀ i : Nat, ∃ ys : List Int, ((i : Int) ∈ kid l j → GoodE l i ys ∧ (∀ x ∈ ys, x ∈ S) ∧ (es.getD i (0, [])).1 ≤ ys.length) := fun i => by
        by_cases hc : (i : Int) ∈ kid l j
        · obtain ⟨i', e, hi, hq⟩ := hk _ hc
          obtain rfl : i = i' := by omega
          obtain ⟨ys, hh⟩ := hq (h1 _ hc)
          exact ⟨ys, fun _ => hh⟩
        · exact ⟨[], fun h => absurd h hc⟩
      let f : Nat → List Int := fun i => Classical.choose (hx i)
      have hf : ∀ i : Nat, (i : Int) ∈ kid l j → GoodE l i (f i) ∧ (∀ x ∈ f i, x ∈ S) ∧ (es.getD i (0, [])).1 ≤ (f i).length := fun i => Classical.choose_spec (hx i)
      let es' : List Ef := (List.range l.length).map fun i => (0, f i)
      have he' : ∀ c ∈ kid l j, ∃ i : Nat, c = i ∧ (i : Int) ∈ kid l j ∧ ed es' c = (0, f i) := fun c hc => by
        obtain ⟨i, rfl, hi, _⟩ := hk c hc
        refine ⟨i, rfl, hc, ?_⟩
        simp [ed, es', List.getD_eq_getElem?_getD, hi]
      have hg := (good_join hT hj (es := es') (fun c hc => by obtain ⟨i, rfl, hm, e⟩ := he' c hc; rw [e]; exact (hf i hm).1) (kid l j).length (Nat.le_refl _)).1
      rw [List.take_length] at hg
      refine ⟨_, hg, fun x hx => ?_, ?_⟩
      · rcases (join_mem _ _).1 hx with hx | ⟨c, hc, hx⟩
        · simp at hx
        · obtain ⟨i, rfl, hm, e⟩ := he' c hc
          rw [e] at hx
          exact (hf i hm).2.1 x hx
      · exact join_len _ _ _ (fun c hc => by obtain ⟨i, rfl, hm, e⟩ := he' c hc; rw [e]; exact (hf i hm).2.2) (by simp)
theorem nodup_sub : ∀ (ys S : List Int), ys.Nodup → (∀ x ∈ ys, x ∈ S) → ys.length ≤ S.length
  | [], _, _, _ => Nat.zero_le _
  | y :: r, S, hn, h => by
    have hy := h y (by simp)
    rw [List.nodup_cons] at hn
    have := nodup_sub r (S.erase y) hn.2 fun x hx => (List.mem_erase_of_ne (fun e => by subst e; exact hn.1 hx)).2 (h x (by simp [hx]))
    rw [List.length_erase, if_pos hy] at this
    have : 0 < S.length := List.length_pos_of_mem hy
    simp only [List.length_cons]
    omega
/-- The other side's efforts. -/
theorem zero_iffF {l : List Nd} {dep : List Int} {tf wf : Int → Int} {es : List Ef} {vs : List Int} {b : Int} (hT : TF l dep) (hE : NeedP l dep false tf es) (hv : ValP l dep wf vs) (ht : ∀ i : Nat, leafB l i = true → tf i = 0 ∨ tf i = 1 ∨ tf i = far)
    (h : ∀ i : Nat, i < l.length → leafB l i = true → (tf i = 0 ↔ wf i ≤ b)) : ∀ j : Nat, j < l.length → ((es.getD j (0, [])).1 = 0 ↔ vs.getD j 0 ≤ b) := by
  have sE := need_small hT hE ht
  refine tree_ind hT (Q := fun j => ((es.getD j (0, [])).1 = 0 ↔ vs.getD j 0 ≤ b)) fun j hj hk => ?_
  have kE : ∀ c ∈ kid l j, GoodE l c (ed es c).2 ∧ Small l (ed es c) := fun c hc => by obtain ⟨i, rfl, hi, _⟩ := hk c hc; exact sE i hi
  have kD : ∀ c ∈ kid l j, ((ed es c).1 = 0 ↔ rd vs c ≤ b) := fun c hc => by obtain ⟨i, rfl, hi, h⟩ := hk c hc; exact h
  rw [hE.at_ j hj, hv.at_ j hj]
  unfold NE NV
  by_cases hl : leafB l j = true
  · rw [if_pos hl, if_pos hl]; exact h j hj hl
  · have hne := leaf_ne hl
    rw [if_neg hl, if_neg hl]
    by_cases he : evB dep j = true
    · rw [if_neg (by rw [he]; simp), if_pos he, joinZ fun c hc => ⟨(kE c hc).2.lo, (kE c hc).2.hi⟩, maxL_le hne]
      exact ⟨fun e c hc => (kD c hc).1 (e c hc), fun e c hc => (kD c hc).2 (e c hc)⟩
    · have he' : evB dep j = false := by simpa using he
      rw [if_pos (by rw [he']; rfl), if_neg he, pickZ fun c hc => (kE c hc).2.lo, minL_le hne]
      exact ⟨fun ⟨c, hc, e⟩ => ⟨c, hc, (kD c hc).1 e⟩, fun ⟨c, hc, e⟩ => ⟨c, hc, (kD c hc).2 e⟩⟩
end Go.Proofs.Ytdiljpnfochndaa.HP
/- The turned tree. -/
namespace Go.Proofs.Ytdiljpnfochndaa.HP
def turnM (l : List Nd) : List Nd := ([1], 0) :: l.map fun x => (x.1.map (· + 1), -x.2)
theorem turn_len (l : List Nd) : (turnM l).length = l.length + 1 := by simp [turnM]
theorem turn_at (l : List Nd) (i : Nat) (h : i < l.length) : (turnM l).getD (i + 1) ([], 0) = ((kid l i).map (· + 1), - wor l i) := by
  simp [turnM, kid, wor, List.getD_eq_getElem?_getD, h]
theorem turn_kid0 (l : List Nd) : kid (turnM l) 0 = [1] := rfl
theorem turn_kid (l : List Nd) (i : Nat) (h : i < l.length) : kid (turnM l) ((i : Int) + 1) = (kid l i).map (· + 1) := by
  show ((turnM l).getD ((i : Int) + 1).toNat ([], 0)).1 = _
  rw [show ((i : Int) + 1).toNat = i + 1 by omega, turn_at l i h]
theorem turn_wor (l : List Nd) (i : Nat) (h : i < l.length) : wor (turnM l) ((i : Int) + 1) = - wor l i := by
  show ((turnM l).getD ((i : Int) + 1).toNat ([], 0)).2 = _
  rw [show ((i : Int) + 1).toNat = i + 1 by omega, turn_at l i h]
theorem turn_leaf (l : List Nd) (i : Nat) (h : i < l.length) : leafB (turnM l) ((i : Int) + 1) = leafB l i := by
  unfold leafB
  rw [turn_kid l i h]
  cases kid l i <;> rfl
theorem map_getD (xs : List Int) (b : Nat) (h : b < xs.length) : (xs.map (· + 1)).getD b 0 = xs.getD b 0 + 1 := by
  simp [List.getD_eq_getElem?_getD, h]
theorem turn_k (l : List Nd) (a b : Nat) (ha : a < l.length) (hb : b < (kid l a).length) : k_ (turnM l) (a + 1) b = k_ l a b + 1 := by
  unfold k_
  rw [show (((a + 1 : Nat)) : Int) = (a : Int) + 1 by omega, turn_kid l a ha, map_getD _ _ hb]
theorem turn_TK {l : List Nd} (h : TK l) (h59 : l.length ≤ 59) : TK (turnM l) := by
  have hn := h.n1
  have hkl : ∀ a : Nat, a < l.length → (kid (turnM l) ((a + 1 : Nat) : Int)).length = (kid l a).length := fun a ha => by
    rw [show (((a + 1 : Nat)) : Int) = (a : Int) + 1 by omega, turn_kid l a ha, List.length_map]
  have h0 : k_ (turnM l) 0 0 = 1 := rfl
  refine ⟨by rw [turn_len]; omega, by rw [turn_len]; omega, fun a b ha hb => ?_, fun a b a' b' ha hb ha' hb' he => ?_, fun c h1 h2 => ?_, fun a ha => ?_⟩
  · rw [turn_len] at ha ⊢
    cases a with
    | zero =>
      have : b = 0 := by have : (kid (turnM l) ((0 : Nat) : Int)).length = 1 := rfl; omega
      subst this
      rw [h0]; omega
    | succ a =>
      rw [hkl a (by omega)] at hb
      have := h.kin a b (by omega) hb
      rw [turn_k l a b (by omega) hb]
      omega
  · rw [turn_len] at ha ha'
    cases a with
    | zero =>
      have e0 : b = 0 := by have : (kid (turnM l) ((0 : Nat) : Int)).length = 1 := rfl; omega
      subst e0
      cases a' with
      | zero =>
        have e0 : b' = 0 := by have : (kid (turnM l) ((0 : Nat) : Int)).length = 1 := rfl; omega
        exact ⟨rfl, e0.symm⟩
      | succ a' =>
        rw [hkl a' (by omega)] at hb'
        have := h.kin a' b' (by omega) hb'
        rw [h0, turn_k l a' b' (by omega) hb'] at he
        omega
    | succ a =>
      rw [hkl a (by omega)] at hb
      cases a' with
      | zero =>
        have e0 : b' = 0 := by have : (kid (turnM l) ((0 : Nat) : Int)).length = 1 := rfl; omega
        subst e0
        have := h.kin a b (by omega) hb
        rw [h0, turn_k l a b (by omega) hb] at he
        omega
      | succ a' =>
        rw [hkl a' (by omega)] at hb'
        rw [turn_k l a b (by omega) hb, turn_k l a' b' (by omega) hb'] at he
        have := h.inj a b a' b' (by omega) hb (by omega) hb' (by omega)
        omega
  · rw [turn_len] at h2
    cases c with
    | zero => omega
    | succ c =>
      cases c with
      | zero => exact ⟨0, 0, by rw [turn_len]; omega, Nat.zero_lt_one, rfl⟩
      | succ c =>
        obtain ⟨a, b, ha, hb, hk⟩ := h.cov (c + 1) (by omega) (by omega)
        refine ⟨a + 1, b, by rw [turn_len]; omega, by rw [hkl a ha]; exact hb, ?_⟩
        rw [turn_k l a b ha hb, hk]
        omega
  · rw [turn_len] at ha
    cases a with
    | zero => exact ⟨show (-100 : Int) ≤ 0 by decide, show (0 : Int) ≤ 100 by decide, fun _ => rfl⟩
    | succ a =>
      rw [hkl a (by omega)]
      have := h.wor a (by omega)
      have hw := turn_wor l a (by omega)
      rw [show (((a + 1 : Nat)) : Int) = (a : Int) + 1 by omega, hw]
      exact ⟨by omega, by omega, fun hp => by have := this.2.2 hp; omega⟩
theorem turn_dep {l : List Nd} {dep dep' : List Int} (hT : TF l dep) (hT' : TF (turnM l) dep') : dep'.getD 0 0 = 0 ∧ ∀ i : Nat, i < l.length → dep'.getD (i + 1) 0 = dep.getD i 0 + 1 := by
  have h0' : dep'.getD 0 0 = 0 := by have := hT'.dbd 0; omega
  have h0 : dep.getD 0 0 = 0 := by have := hT.dbd 0; omega
  refine ⟨h0', fun i => ?_⟩
  induction i using Nat.strongRecOn with
  | _ i ih =>
    intro hi
    by_cases e : i = 0
    · subst e
      have := hT'.kdep 0 0 (by rw [turn_len]; omega) Nat.zero_lt_one
      rw [show k_ (turnM l) 0 0 = 1 from rfl] at this
      simp only [rd] at this
      rw [show ((0 : Nat) : Int).toNat = 0 from rfl, show (1 : Int).toNat = 1 from rfl, h0'] at this
      rw [h0]
      exact this
    · obtain ⟨a, b, ha, hb, hk⟩ := hT.cov i (by omega) hi
      have hlt := hT.kin a b ha hb
      have h1 := hT.kdep a b ha hb
      have h2 := hT'.kdep (a + 1) b (by rw [turn_len]; omega) (by rw [show (((a + 1 : Nat)) : Int) = (a : Int) + 1 by omega, turn_kid l a ha, List.length_map]; exact hb)
      rw [turn_k l a b ha hb, hk] at h2
      rw [hk] at h1 hlt
      simp only [rd, Int.toNat_natCast] at h1 h2
      rw [show ((i : Int) + 1).toNat = i + 1 by omega] at h2
      rw [h2, h1, ih a (by omega) ha]
theorem turn_ev {l : List Nd} {dep dep' : List Int} (hT : TF l dep) (hT' : TF (turnM l) dep') {i : Nat} (hi : i < l.length) : evB dep' ((i : Int) + 1) = !evB dep i := by
  have h := (turn_dep hT hT').2 i hi
  have hb := (hT.dbd i).1
  unfold evB
  simp only [rd, Int.toNat_natCast]
  rw [show ((i : Int) + 1).toNat = i + 1 by omega, h]
  generalize dep.getD i 0 = d at *
  rw [Int.tmod_eq_emod_of_nonneg (by omega), Int.tmod_eq_emod_of_nonneg (by omega)]
  by_cases h : d % 2 = 0
  · rw [h, show (d + 1) % 2 = 1 by omega]; rfl
  · rw [show d % 2 = 1 by omega, show (d + 1) % 2 = 0 by omega]; rfl
theorem maxL_neg (xs : List Int) : maxL (xs.map fun x => -x) = - minL xs := by
  cases xs with
  | nil => rfl
  | cons x r =>
    simp only [maxL, minL, List.map_cons]
    induction r generalizing x with
    | nil => rfl
    | cons y r ih => simp only [List.map_cons, List.foldl_cons]; rw [show max (-x) (-y) = - min x y by omega]; exact ih _
theorem minL_neg (xs : List Int) : minL (xs.map fun x => -x) = - maxL xs := by
  cases xs with
  | nil => rfl
  | cons x r =>
    simp only [maxL, minL, List.map_cons]
    induction r generalizing x with
    | nil => rfl
    | cons y r ih => simp only [List.map_cons, List.foldl_cons]; rw [show min (-x) (-y) = - max x y by omega]; exact ih _
theorem turn_val {l : List Nd} {dep dep' : List Int} {vs us : List Int} (hT : TF l dep) (hT' : TF (turnM l) dep') (hv : ValP l dep (wor l) vs) (hu : ValP (turnM l) dep' (wor (turnM l)) us) : us.getD 0 0 = - vs.getD 0 0 := by
  have hn := hT.n1
  have key : ∀ j : Nat, j < l.length → us.getD (j + 1) 0 = - vs.getD j 0 := by
    refine tree_ind hT (Q := fun j => us.getD (j + 1) 0 = - vs.getD j 0) fun j hj hk => ?_
    have kD : (kid (turnM l) ((j : Int) + 1)).map (rd us) = ((kid l j).map (rd vs)).map fun x => -x := by
      rw [turn_kid l j hj, List.map_map, List.map_map]
      apply List.map_congr_left
      intro c hc
      obtain ⟨i, rfl, hi, h⟩ := hk c hc
      simp only [Function.comp, rd, Int.toNat_natCast]
      rw [show ((i : Int) + 1).toNat = i + 1 by omega]
      exact h
    rw [hu.at_ (j + 1) (by rw [turn_len]; omega), hv.at_ j hj]
    unfold NV
    rw [show (((j + 1 : Nat)) : Int) = (j : Int) + 1 by omega, kD, turn_leaf l j hj, turn_ev hT hT' hj, turn_wor l j hj]
    generalize (kid l j).map (rd vs) = xs
    cases leafB l j <;> cases evB dep j <;> simp [maxL_neg, minL_neg]
  rw [hu.at_ 0 (by rw [turn_len]; omega)]
  have h0 : evB dep' 0 = true := by
    unfold evB
    simp only [rd]
    rw [show (0 : Int).toNat = 0 from rfl, (turn_dep hT hT').1]
    rfl
  unfold NV
  rw [show ((0 : Nat) : Int) = 0 from rfl, h0, turn_kid0, show leafB (turnM l) 0 = false from rfl]
  have := key 0 (by omega)
  simp only [rd, maxL, List.map_cons, List.map_nil, List.foldl_nil]
  simpa using this
theorem pick_shift {es fs : List Ef} : ∀ (cs : List Int) (a : Ef), (∀ c ∈ cs, ed fs (c + 1) = ((ed es c).1, (ed es c).2.map (· + 1))) → (cs.map (· + 1)).foldl (pickF fs) (a.1, a.2.map (· + 1)) = ((cs.foldl (pickF es) a).1, (cs.foldl (pickF es) a).2.map (· + 1))
  | [], _, _ => rfl
  | c :: r, a, h => by
    rw [List.map_cons, List.foldl_cons, List.foldl_cons]
    have hp : pickF fs (a.1, a.2.map (· + 1)) (c + 1) = ((pickF es a c).1, (pickF es a c).2.map (· + 1)) := by
      unfold pickF
      rw [h c (by simp)]
      split <;> simp_all
    rw [hp]
    exact pick_shift r _ fun x hx => h x (by simp [hx])
theorem join_shift {es fs : List Ef} : ∀ (cs : List Int) (a : Ef), (∀ c ∈ cs, ed fs (c + 1) = ((ed es c).1, (ed es c).2.map (· + 1))) → (cs.map (· + 1)).foldl (joinF fs) (a.1, a.2.map (· + 1)) = ((cs.foldl (joinF es) a).1, (cs.foldl (joinF es) a).2.map (· + 1))
  | [], _, _ => rfl
  | c :: r, a, h => by
    rw [List.map_cons, List.foldl_cons, List.foldl_cons]
    have hp : joinF fs (a.1, a.2.map (· + 1)) (c + 1) = ((joinF es a c).1, (joinF es a c).2.map (· + 1)) := by
      unfold joinF
      rw [h c (by simp)]
      simp
    rw [hp]
    exact join_shift r _ fun x hx => h x (by simp [hx])
theorem turn_need {l : List Nd} {dep dep' : List Int} {lf lf' : Int → Int} {es fs : List Ef} (hT : TF l dep) (hT' : TF (turnM l) dep') (hE : NeedP l dep false lf es) (hF : NeedP (turnM l) dep' true lf' fs)
    (h : ∀ i : Nat, i < l.length → leafB l i = true → lf' ((i : Int) + 1) = lf i) (hb : (es.getD 0 (0, [])).1 ≤ far) : (fs.getD 0 (0, [])).1 = (es.getD 0 (0, [])).1 ∧ ((es.getD 0 (0, [])).1 < far → (fs.getD 0 (0, [])).2.length = (es.getD 0 (0, [])).2.length) := by
  have hn := hT.n1
  have key : ∀ j : Nat, j < l.length → fs.getD (j + 1) (0, []) = ((es.getD j (0, [])).1, (es.getD j (0, [])).2.map (· + 1)) := by
    refine tree_ind hT (Q := fun j => fs.getD (j + 1) (0, []) = ((es.getD j (0, [])).1, (es.getD j (0, [])).2.map (· + 1))) fun j hj hk => ?_
    have kD : ∀ c ∈ kid l j, ed fs (c + 1) = ((ed es c).1, (ed es c).2.map (· + 1)) := fun c hc => by
      obtain ⟨i, rfl, hi, h⟩ := hk c hc
      simp only [ed, Int.toNat_natCast]
      rw [show ((i : Int) + 1).toNat = i + 1 by omega]
      exact h
    rw [hF.at_ (j + 1) (by rw [turn_len]; omega), hE.at_ j hj]
    unfold NE
    rw [show (((j + 1 : Nat)) : Int) = (j : Int) + 1 by omega, turn_leaf l j hj, turn_ev hT hT' hj, turn_kid l j hj]
    by_cases hl : leafB l j = true
    · rw [if_pos hl, if_pos hl, h j hj hl]; rfl
    · rw [if_neg hl, if_neg hl]
      have hp := pick_shift (kid l j) (far, []) kD
      have hq := join_shift (kid l j) (0, []) kD
      simp only [List.map_nil] at hp hq
      cases evB dep j
      · simpa using hp
      · simpa using hq
  have h0 : evB dep' 0 = true := by
    unfold evB
    simp only [rd]
    rw [show (0 : Int).toNat = 0 from rfl, (turn_dep hT hT').1]
    rfl
  have hk := key 0 (by omega)
  have hz := hF.at_ 0 (by rw [turn_len]; omega)
  unfold NE at hz
  rw [show ((0 : Nat) : Int) = 0 from rfl, h0, turn_kid0, show leafB (turnM l) 0 = false from rfl] at hz
  simp only [Bool.false_eq_true, if_false, beq_self_eq_true, if_true, List.foldl_cons, List.foldl_nil, pickF, ed] at hz
  rw [show (1 : Int).toNat = 0 + 1 from rfl, hk] at hz
  rw [hz]
  split
  · exact ⟨rfl, fun _ => by simp⟩
  · rename_i hx
    simp only at hx ⊢
    exact ⟨by omega, fun h => by omega⟩
theorem kids_shift {l : List Nd} {ev : Bool} {rec rec' : Int → Int → Int → Int × List Int} : ∀ (cs : List Int) (lo hi : Int), (∀ c ∈ cs, ∀ lo hi, rec' (c + 1) (-hi) (-lo) = (-(rec c lo hi).1, (rec c lo hi).2.map (· + 1))) →
    kidsS rec' (!ev) (cs.map (· + 1)) (-hi) (-lo) = (-(kidsS rec ev cs lo hi).2.1, -(kidsS rec ev cs lo hi).1, (kidsS rec ev cs lo hi).2.2.map (· + 1))
  | [], lo, hi, _ => rfl
  | c :: r, lo, hi, h => by
    have hc := h c (by simp) lo hi
    simp only [List.map_cons, kidsS]
    rw [hc]
    have e1 : (if (!ev) = true then -lo else min (-lo) (-(rec c lo hi).1)) = -(if ev = true then max lo (rec c lo hi).1 else lo) := by cases ev <;> simp <;> omega
    have e2 : (if (!ev) = true then max (-hi) (-(rec c lo hi).1) else -hi) = -(if ev = true then hi else min hi (rec c lo hi).1) := by cases ev <;> simp <;> omega
    simp only [e1, e2]
    generalize (if ev = true then max lo (rec c lo hi).1 else lo) = lo' at *
    generalize (if ev = true then hi else min hi (rec c lo hi).1) = hi' at *
    by_cases hle : hi' ≤ lo'
    · rw [if_pos hle, if_pos (by omega)]
    · rw [if_neg hle, if_neg (by omega), kids_shift (l := l) r lo' hi' fun x hx => h x (by simp [hx])]
      simp
theorem turn_sr {l : List Nd} {dep dep' : List Int} (hT : TF l dep) (hT' : TF (turnM l) dep') : ∀ (f : Nat) (i : Nat) (lo hi : Int), i < l.length → srS (turnM l) dep' f ((i : Int) + 1) (-hi) (-lo) = (-(srS l dep f i lo hi).1, (srS l dep f i lo hi).2.map (· + 1))
  | 0, i, lo, hi, _ => rfl
  | f + 1, i, lo, hi, h => by
    simp only [srS]
    rw [turn_leaf l i h, turn_ev hT hT' h, turn_kid l i h, turn_wor l i h]
    by_cases hl : leafB l i = true
    · rw [if_pos hl, if_pos hl]; rfl
    · rw [if_neg hl, if_neg hl, kids_shift (l := l) (kid l i) lo hi fun c hc lo hi => by
        obtain ⟨h1, h2⟩ := mem_kid hT h hc
        have := turn_sr hT hT' f c.toNat lo hi (by omega)
        rw [show ((c.toNat : Nat) : Int) = c by omega] at this
        exact this]
      cases evB dep i <;> simp
theorem turn_search {l : List Nd} {dep dep' : List Int} (hT : TF l dep) (hT' : TF (turnM l) dep') : (srS (turnM l) dep' (turnM l).length 0 (-far) far).2.length = (srS l dep l.length 0 (-far) far).2.length := by
  have hn := hT.n1
  have h0 : evB dep' 0 = true := by
    unfold evB
    simp only [rd]
    rw [show (0 : Int).toNat = 0 from rfl, (turn_dep hT hT').1]
    rfl
  have h := turn_sr hT hT' l.length 0 (-far) far (by omega)
  rw [turn_len]
  simp only [srS]
  rw [show leafB (turnM l) 0 = false from rfl, h0, turn_kid0]
  simp only [Bool.false_eq_true, if_false, kidsS, if_true]
  have e : srS (turnM l) dep' l.length 1 (-far) far = (-(srS l dep l.length 0 (-far) far).1, (srS l dep l.length 0 (-far) far).2.map (· + 1)) := by
    have := h
    simpa using this
  rw [e]
  split <;> simp
end Go.Proofs.Ytdiljpnfochndaa.HP
/- Reading trees, by facts that were told earlier. -/
namespace Go.Proofs.Ytdiljpnfochndaa
open Go Go.RowKit Go.Proofs.Ytdiljpnfochndaa.VW
open Go.Proofs.Ytdiljpnfochndaa.HP (Nd kid wor leafB)
section
variable {P : Program} [hT : Tab P] {n : Nat} {ds : List Deferred} {Φ : Post} {k : List It} {ρ : E} {w : World} {all : Array Oper} {l : List Oper} {md : Option (List Oper)} {s : Nat} {F : World → Prop} {π : List (Nat × Nat)} {L : List Bool}
theorem TreeM.at_ {w0 : World} {v : Value} {tr : List Nd} (h : TreeM w0 v tr) {i : Int} (h0 : 0 ≤ i) (hi : i < tr.length) : ∃ a c A' c', v = .slice (some a) tr.length c ∧ SlI w0 (.slice A' (kid tr i).length c') (kid tr i) ∧
    (∀ w, Below w0.heap.size w0 w → w.cell? (a.add (i.toNat * 2)) = some (.slice A' (kid tr i).length c') ∧ w.cell? ((a.add (i.toNat * 2)).add 1) = some (.int .i64 (wor tr i))) := by
  obtain ⟨A, c, cvs, rfl, h, hc⟩ := h
  obtain ⟨a, rfl, hcell⟩ := h (by omega)
  have h4 := hcell i.toNat (by omega)
  have h5 := hc i.toNat (by omega)
  obtain ⟨A', c', e⟩ := Sl.sl h5
  rw [e] at h4 h5
  refine ⟨a, c, A', c', rfl, h5, fun w hb => ?_⟩
  have kk := Kp.of_below (S := fun _ => False) hb
  exact ⟨cell_kp kk h4.1 (fun e => e), cell_kp kk h4.2 (fun e => e)⟩
theorem add_zero' (p : Addr) : p.add 0 = p := by simp [Addr.add]
theorem Ops.rdKB {o1 o2 o3 : Oper} {d1 d2 d3 t s t' : Nat} {x y : Operand} {v : Value} {i : Int} {tr : List Nd} {w0 : World} {c1 c2 c3 : Bool}
    (h1 : o1.op = .indexAddr t x y) (hd1 : o1.dst = some d1) (hg1 : gdB all ρ o1.guard = some c1) (hc1 : c1 = true) (h2 : o2.op = .fieldAddr s (.tmp d1) 0) (hd2 : o2.dst = some d2) (hg2 : ∀ p, gdB all ((d1, .pointer p) :: ρ) o2.guard = some c2) (hc2 : c2 = true) (h3 : o3.op = .load t' (.tmp d2)) (hd3 : o3.dst = some d3) (hg3 : ∀ p q, gdB all ((d2, .pointer q) :: (d1, .pointer p) :: ρ) o3.guard = some c3) (hc3 : c3 = true)
    (ht : tyD P t = some (.slice s)) (hs : tyS P s = some 2) (hf : fieldOff P s 0 = some (0, 1)) (ha : tyAgg P t' = some false) (hx : ev ρ x = some v) (hy : ev ρ y = some (.int .i64 i)) (htr : TreeM w0 v tr) (hbel : Below w0.heap.size w0 w) (h0 : 0 ≤ i) (hi : i < tr.length)
    (hk : ∀ A c p q, SlI w0 (.slice A (kid tr i).length c) (kid tr i) → Ops md P n ds all k Φ l ((d3, .slice A (kid tr i).length c) :: (d2, q) :: (d1, p) :: ρ) w) : Ops md P n ds all k Φ (o1 :: o2 :: o3 :: l) ρ w := by
  obtain ⟨a, c, A', c', rfl, hsl, hcell⟩ := htr.at_ h0 hi
  refine Ops.evG hd1 hg1 hc1 (EV.idx h1 ht hs hx hy h0 hi) (Ops.evG hd2 (hg2 _) hc2 (EV.fld h2 hf (ev_top _ _ _)) ?_)
  rw [add_zero']
  exact Ops.evG hd3 (hg3 _ _) hc3 (EV.ld h3 ha (ev_top _ _ _) (hcell w hbel).1) (hk _ _ _ _ hsl)
theorem Ops.rdWB {o1 o2 o3 : Oper} {d1 d2 d3 t s t' : Nat} {x y : Operand} {v : Value} {i : Int} {tr : List Nd} {w0 : World} {c1 c2 c3 : Bool}
    (h1 : o1.op = .indexAddr t x y) (hd1 : o1.dst = some d1) (hg1 : gdB all ρ o1.guard = some c1) (hc1 : c1 = true) (h2 : o2.op = .fieldAddr s (.tmp d1) 1) (hd2 : o2.dst = some d2) (hg2 : ∀ p, gdB all ((d1, .pointer p) :: ρ) o2.guard = some c2) (hc2 : c2 = true) (h3 : o3.op = .load t' (.tmp d2)) (hd3 : o3.dst = some d3) (hg3 : ∀ p q, gdB all ((d2, .pointer q) :: (d1, .pointer p) :: ρ) o3.guard = some c3) (hc3 : c3 = true)
    (ht : tyD P t = some (.slice s)) (hs : tyS P s = some 2) (hf : fieldOff P s 1 = some (1, 1)) (ha : tyAgg P t' = some false) (hx : ev ρ x = some v) (hy : ev ρ y = some (.int .i64 i)) (htr : TreeM w0 v tr) (hbel : Below w0.heap.size w0 w) (h0 : 0 ≤ i) (hi : i < tr.length)
    (hk : ∀ p q, Ops md P n ds all k Φ l ((d3, .int .i64 (wor tr i)) :: (d2, q) :: (d1, p) :: ρ) w) : Ops md P n ds all k Φ (o1 :: o2 :: o3 :: l) ρ w := by
  obtain ⟨a, c, A', c', rfl, hsl, hcell⟩ := htr.at_ h0 hi
  exact Ops.evG hd1 hg1 hc1 (EV.idx h1 ht hs hx hy h0 hi) (Ops.evG hd2 (hg2 _) hc2 (EV.fld h2 hf (ev_top _ _ _)) (Ops.evG hd3 (hg3 _ _) hc3 (EV.ld h3 ha (ev_top _ _ _) (hcell w hbel).2) (hk _ _)))
theorem Ops.rdNB {o1 o2 : Oper} {d1 d2 t s t' : Nat} {x y : Operand} {v : Value} {i : Int} {tr : List Nd} {w0 : World} {c1 c2 : Bool}
    (h1 : o1.op = .indexAddr t x y) (hd1 : o1.dst = some d1) (hg1 : gdB all ρ o1.guard = some c1) (hc1 : c1 = true) (h2 : o2.op = .load t' (.tmp d1)) (hd2 : o2.dst = some d2) (hg2 : ∀ p, gdB all ((d1, .pointer p) :: ρ) o2.guard = some c2) (hc2 : c2 = true)
    (ht : tyD P t = some (.slice s)) (hs : tyS P s = some 2) (hs' : tyS P t' = some 2) (ha : tyAgg P t' = some true) (hx : ev ρ x = some v) (hy : ev ρ y = some (.int .i64 i)) (htr : TreeM w0 v tr) (hbel : Below w0.heap.size w0 w) (h0 : 0 ≤ i) (hi : i < tr.length)
    (hk : ∀ A c p, SlI w0 (.slice A (kid tr i).length c) (kid tr i) → Ops md P n ds all k Φ l ((d2, .agg #[.slice A (kid tr i).length c, .int .i64 (wor tr i)]) :: (d1, p) :: ρ) w) : Ops md P n ds all k Φ (o1 :: o2 :: l) ρ w := by
  obtain ⟨a, c, A', c', rfl, hsl, hcell⟩ := htr.at_ h0 hi
  exact Ops.evG hd1 hg1 hc1 (EV.idx h1 ht hs hx hy h0 hi) (Ops.evG hd2 (hg2 _) hc2 (EV.ld2 h2 ha hs' (ev_top _ _ _) (hcell w hbel).1 (hcell w hbel).2) (hk _ _ _ hsl))
theorem OrdA.rdK {i1 i2 i3 d1 d2 d3 t s' t' : Nat} {o1 o2 o3 : Oper} {x y : Operand} {v : Value} {i : Int} {tr : List Nd} {w0 : World} {c1 c2 c3 : Bool}
    (e1 : all[i1]? = some o1) (h1 : o1.op = .indexAddr t x y) (hd1 : o1.dst = some d1) (hg1 : gdB all ρ o1.guard = some c1) (hc1 : c1 = true) (e2 : all[i2]? = some o2) (h2 : o2.op = .fieldAddr s' (.tmp d1) 0) (hd2 : o2.dst = some d2) (hg2 : ∀ p, gdB all ((d1, .pointer p) :: ρ) o2.guard = some c2) (hc2 : c2 = true)
    (e3 : all[i3]? = some o3) (h3 : o3.op = .load t' (.tmp d2)) (hd3 : o3.dst = some d3) (hg3 : ∀ p q, gdB all ((d2, .pointer q) :: (d1, .pointer p) :: ρ) o3.guard = some c3) (hc3 : c3 = true)
    (ht : tyD P t = some (.slice s')) (hs : tyS P s' = some 2) (hf : fieldOff P s' 0 = some (0, 1)) (ha : tyAgg P t' = some false) (hx : ev ρ x = some v) (hy : ev ρ y = some (.int .i64 i)) (htr : TreeM w0 v tr) (hF : ∀ w, F w → Below w0.heap.size w0 w) (h0 : 0 ≤ i) (hi : i < tr.length)
    (hk : ∀ A c p q, SlI w0 (.slice A (kid tr i).length c) (kid tr i) → OrdA P n ds all k Φ s F π (((L.set i1 true).set i2 true).set i3 true) ((d3, .slice A (kid tr i).length c) :: (d2, q) :: (d1, p) :: ρ)) : OrdA P n ds all k Φ s F ((i1, 1) :: (i2, 1) :: (i3, 2) :: π) L ρ := by
  obtain ⟨a, c, A', c', rfl, hsl, hcell⟩ := htr.at_ h0 hi
  refine OrdA.pure e1 hd1 hg1 hc1 (fun w => EV.idx h1 ht hs hx hy h0 hi) (OrdA.pure e2 hd2 (hg2 _) hc2 (fun w => EV.fld h2 hf (ev_top _ _ _)) ?_)
  rw [add_zero']
  exact OrdA.read e3 hd3 (hg3 _ _) hc3 (fun w hw => EV.ld h3 ha (ev_top _ _ _) (hcell w (hF w hw)).1) (hk _ _ _ _ hsl)
theorem OrdA.rdW {i1 i2 i3 d1 d2 d3 t s' t' : Nat} {o1 o2 o3 : Oper} {x y : Operand} {v : Value} {i : Int} {tr : List Nd} {w0 : World} {c1 c2 c3 : Bool}
    (e1 : all[i1]? = some o1) (h1 : o1.op = .indexAddr t x y) (hd1 : o1.dst = some d1) (hg1 : gdB all ρ o1.guard = some c1) (hc1 : c1 = true) (e2 : all[i2]? = some o2) (h2 : o2.op = .fieldAddr s' (.tmp d1) 1) (hd2 : o2.dst = some d2) (hg2 : ∀ p, gdB all ((d1, .pointer p) :: ρ) o2.guard = some c2) (hc2 : c2 = true)
    (e3 : all[i3]? = some o3) (h3 : o3.op = .load t' (.tmp d2)) (hd3 : o3.dst = some d3) (hg3 : ∀ p q, gdB all ((d2, .pointer q) :: (d1, .pointer p) :: ρ) o3.guard = some c3) (hc3 : c3 = true)
    (ht : tyD P t = some (.slice s')) (hs : tyS P s' = some 2) (hf : fieldOff P s' 1 = some (1, 1)) (ha : tyAgg P t' = some false) (hx : ev ρ x = some v) (hy : ev ρ y = some (.int .i64 i)) (htr : TreeM w0 v tr) (hF : ∀ w, F w → Below w0.heap.size w0 w) (h0 : 0 ≤ i) (hi : i < tr.length)
    (hk : ∀ p q, OrdA P n ds all k Φ s F π (((L.set i1 true).set i2 true).set i3 true) ((d3, .int .i64 (wor tr i)) :: (d2, q) :: (d1, p) :: ρ)) : OrdA P n ds all k Φ s F ((i1, 1) :: (i2, 1) :: (i3, 2) :: π) L ρ := by
  obtain ⟨a, c, A', c', rfl, hsl, hcell⟩ := htr.at_ h0 hi
  exact OrdA.pure e1 hd1 hg1 hc1 (fun w => EV.idx h1 ht hs hx hy h0 hi) (OrdA.pure e2 hd2 (hg2 _) hc2 (fun w => EV.fld h2 hf (ev_top _ _ _)) (OrdA.read e3 hd3 (hg3 _ _) hc3 (fun w hw => EV.ld h3 ha (ev_top _ _ _) (hcell w (hF w hw)).2) (hk _ _)))
theorem OrdA.rdN {i1 i2 d1 d2 t s' t' : Nat} {o1 o2 : Oper} {x y : Operand} {v : Value} {i : Int} {tr : List Nd} {w0 : World} {c1 c2 : Bool}
    (e1 : all[i1]? = some o1) (h1 : o1.op = .indexAddr t x y) (hd1 : o1.dst = some d1) (hg1 : gdB all ρ o1.guard = some c1) (hc1 : c1 = true) (e2 : all[i2]? = some o2) (h2 : o2.op = .load t' (.tmp d1)) (hd2 : o2.dst = some d2) (hg2 : ∀ p, gdB all ((d1, .pointer p) :: ρ) o2.guard = some c2) (hc2 : c2 = true)
    (ht : tyD P t = some (.slice s')) (hs : tyS P s' = some 2) (hs' : tyS P t' = some 2) (ha : tyAgg P t' = some true) (hx : ev ρ x = some v) (hy : ev ρ y = some (.int .i64 i)) (htr : TreeM w0 v tr) (hF : ∀ w, F w → Below w0.heap.size w0 w) (h0 : 0 ≤ i) (hi : i < tr.length)
    (hk : ∀ A c p, SlI w0 (.slice A (kid tr i).length c) (kid tr i) → OrdA P n ds all k Φ s F π ((L.set i1 true).set i2 true) ((d2, .agg #[.slice A (kid tr i).length c, .int .i64 (wor tr i)]) :: (d1, p) :: ρ)) : OrdA P n ds all k Φ s F ((i1, 1) :: (i2, 2) :: π) L ρ := by
  obtain ⟨a, c, A', c', rfl, hsl, hcell⟩ := htr.at_ h0 hi
  exact OrdA.pure e1 hd1 hg1 hc1 (fun w => EV.idx h1 ht hs hx hy h0 hi) (OrdA.read e2 hd2 (hg2 _) hc2 (fun w hw => EV.ld2 h2 ha hs' (ev_top _ _ _) (hcell w (hF w hw)).1 (hcell w (hF w hw)).2) (hk _ _ _ hsl))
theorem _root_.Go.Proofs.Ytdiljpnfochndaa.VW.Ord.rdK {i1 i2 i3 d1 d2 d3 t s' t' : Nat} {o1 o2 o3 : Oper} {x y : Operand} {v : Value} {i : Int} {tr : List Nd} {w0 : World} {c1 c2 c3 : Bool}
    (e1 : all[i1]? = some o1) (h1 : o1.op = .indexAddr t x y) (hd1 : o1.dst = some d1) (hg1 : gdB all ρ o1.guard = some c1) (hc1 : c1 = true) (e2 : all[i2]? = some o2) (h2 : o2.op = .fieldAddr s' (.tmp d1) 0) (hd2 : o2.dst = some d2) (hg2 : ∀ p, gdB all ((d1, .pointer p) :: ρ) o2.guard = some c2) (hc2 : c2 = true)
    (e3 : all[i3]? = some o3) (h3 : o3.op = .load t' (.tmp d2)) (hd3 : o3.dst = some d3) (hg3 : ∀ p q, gdB all ((d2, .pointer q) :: (d1, .pointer p) :: ρ) o3.guard = some c3) (hc3 : c3 = true)
    (ht : tyD P t = some (.slice s')) (hs : tyS P s' = some 2) (hf : fieldOff P s' 0 = some (0, 1)) (ha : tyAgg P t' = some false) (hx : ev ρ x = some v) (hy : ev ρ y = some (.int .i64 i)) (htr : TreeM w0 v tr) (hF : ∀ w, F w → Below w0.heap.size w0 w) (h0 : 0 ≤ i) (hi : i < tr.length)
    (hΦ : ∀ c ρ w, ¬ Φ (.panic c) ρ w) (hk : ∀ A c p q, SlI w0 (.slice A (kid tr i).length c) (kid tr i) → VW.Ord P n ds all k Φ s F π (((L.set i1 true).set i2 true).set i3 true) ((d3, .slice A (kid tr i).length c) :: (d2, q) :: (d1, p) :: ρ) w) : VW.Ord P n ds all k Φ s F ((i1, 1) :: (i2, 1) :: (i3, 2) :: π) L ρ w := by
  obtain ⟨a, c, A', c', rfl, hsl, hcell⟩ := htr.at_ h0 hi
  refine VW.Ord.pure e1 hd1 hg1 hc1 hΦ (fun w => EV.idx h1 ht hs hx hy h0 hi) (VW.Ord.pure e2 hd2 (hg2 _) hc2 hΦ (fun w => EV.fld h2 hf (ev_top _ _ _)) ?_)
  rw [add_zero']
  exact VW.Ord.read' e3 hd3 (hg3 _ _) hc3 hΦ (fun w hw => EV.ld h3 ha (ev_top _ _ _) (hcell w (hF w hw)).1) (hk _ _ _ _ hsl)
theorem _root_.Go.Proofs.Ytdiljpnfochndaa.VW.Ord.rdW {i1 i2 i3 d1 d2 d3 t s' t' : Nat} {o1 o2 o3 : Oper} {x y : Operand} {v : Value} {i : Int} {tr : List Nd} {w0 : World} {c1 c2 c3 : Bool}
    (e1 : all[i1]? = some o1) (h1 : o1.op = .indexAddr t x y) (hd1 : o1.dst = some d1) (hg1 : gdB all ρ o1.guard = some c1) (hc1 : c1 = true) (e2 : all[i2]? = some o2) (h2 : o2.op = .fieldAddr s' (.tmp d1) 1) (hd2 : o2.dst = some d2) (hg2 : ∀ p, gdB all ((d1, .pointer p) :: ρ) o2.guard = some c2) (hc2 : c2 = true)
    (e3 : all[i3]? = some o3) (h3 : o3.op = .load t' (.tmp d2)) (hd3 : o3.dst = some d3) (hg3 : ∀ p q, gdB all ((d2, .pointer q) :: (d1, .pointer p) :: ρ) o3.guard = some c3) (hc3 : c3 = true)
    (ht : tyD P t = some (.slice s')) (hs : tyS P s' = some 2) (hf : fieldOff P s' 1 = some (1, 1)) (ha : tyAgg P t' = some false) (hx : ev ρ x = some v) (hy : ev ρ y = some (.int .i64 i)) (htr : TreeM w0 v tr) (hF : ∀ w, F w → Below w0.heap.size w0 w) (h0 : 0 ≤ i) (hi : i < tr.length)
    (hΦ : ∀ c ρ w, ¬ Φ (.panic c) ρ w) (hk : ∀ p q, VW.Ord P n ds all k Φ s F π (((L.set i1 true).set i2 true).set i3 true) ((d3, .int .i64 (wor tr i)) :: (d2, q) :: (d1, p) :: ρ) w) : VW.Ord P n ds all k Φ s F ((i1, 1) :: (i2, 1) :: (i3, 2) :: π) L ρ w := by
  obtain ⟨a, c, A', c', rfl, hsl, hcell⟩ := htr.at_ h0 hi
  exact VW.Ord.pure e1 hd1 hg1 hc1 hΦ (fun w => EV.idx h1 ht hs hx hy h0 hi) (VW.Ord.pure e2 hd2 (hg2 _) hc2 hΦ (fun w => EV.fld h2 hf (ev_top _ _ _)) (VW.Ord.read' e3 hd3 (hg3 _ _) hc3 hΦ (fun w hw => EV.ld h3 ha (ev_top _ _ _) (hcell w (hF w hw)).2) (hk _ _)))
theorem _root_.Go.Proofs.Ytdiljpnfochndaa.VW.Ord.rdN {i1 i2 d1 d2 t s' t' : Nat} {o1 o2 : Oper} {x y : Operand} {v : Value} {i : Int} {tr : List Nd} {w0 : World} {c1 c2 : Bool}
    (e1 : all[i1]? = some o1) (h1 : o1.op = .indexAddr t x y) (hd1 : o1.dst = some d1) (hg1 : gdB all ρ o1.guard = some c1) (hc1 : c1 = true) (e2 : all[i2]? = some o2) (h2 : o2.op = .load t' (.tmp d1)) (hd2 : o2.dst = some d2) (hg2 : ∀ p, gdB all ((d1, .pointer p) :: ρ) o2.guard = some c2) (hc2 : c2 = true)
    (ht : tyD P t = some (.slice s')) (hs : tyS P s' = some 2) (hs' : tyS P t' = some 2) (ha : tyAgg P t' = some true) (hx : ev ρ x = some v) (hy : ev ρ y = some (.int .i64 i)) (htr : TreeM w0 v tr) (hF : ∀ w, F w → Below w0.heap.size w0 w) (h0 : 0 ≤ i) (hi : i < tr.length)
    (hΦ : ∀ c ρ w, ¬ Φ (.panic c) ρ w) (hk : ∀ A c p, SlI w0 (.slice A (kid tr i).length c) (kid tr i) → VW.Ord P n ds all k Φ s F π ((L.set i1 true).set i2 true) ((d2, .agg #[.slice A (kid tr i).length c, .int .i64 (wor tr i)]) :: (d1, p) :: ρ) w) : VW.Ord P n ds all k Φ s F ((i1, 1) :: (i2, 2) :: π) L ρ w := by
  obtain ⟨a, c, A', c', rfl, hsl, hcell⟩ := htr.at_ h0 hi
  exact VW.Ord.pure e1 hd1 hg1 hc1 hΦ (fun w => EV.idx h1 ht hs hx hy h0 hi) (VW.Ord.read' e2 hd2 (hg2 _) hc2 hΦ (fun w hw => EV.ld2 h2 ha hs' (ev_top _ _ _) (hcell w (hF w hw)).1 (hcell w (hF w hw)).2) (hk _ _ _ hsl))
end
end Go.Proofs.Ytdiljpnfochndaa
/- Drawn regions in which two effects may come in either order. -/
namespace Go.Proofs.Ytdiljpnfochndaa.VW
open Go Go.RowKit
section
variable {P : Program} [hT : Tab P] {n : Nat} {ds : List Deferred} {Φ : Post} {k : List It} {ρ : E} {w : World} {all : Array Oper} {l : List Oper} {md : Option (List Oper)} {s : Nat} {F : World → Prop} {π : List (Nat × Nat)} {L : List Bool} {m : Nat}
def OrdX (P : Program) (n : Nat) (ds : List Deferred) (all : Array Oper) (k : List It) (Φ : Post) (m : Nat) (L : List Bool) (ρ : E) (w : World) : Prop :=
  Region.noSelect all = true → (all.toList.all fun o => dOk n o.dst) = true → Cl .any all L.toArray → (∀ c ρ w, ¬ Φ (.panic c) ρ w) → ∀ a, Rep n a ρ → a.defers = ds → wpAnyI P .any all (lift n ds (Qof P n ds Φ k)) (SF all 9999 (fun _ => True)) m L.toArray a w
omit hT in
theorem OrdX.of {π : List (Nat × Nat)} (hc : chk all 9999 π L = true) (hm : m = π.length) (h : Ord P n ds all k Φ 9999 (fun _ => True) π L ρ w) : OrdX P n ds all k Φ m L ρ w := by
  subst hm
  exact fun h1 h2 h3 _ a hr hd => h hc h1 h2 h3 (fun _ => trivial) a hr hd
def pureB (all : Array Oper) (L : List Bool) (i : Nat) : Bool := Region.free .any all L.toArray i && (Region.ready .any all L.toArray).contains i && (i != 9999)
omit hT in
theorem OrdX.pure {d : Nat} {o : Oper} {v : Value} {c : Bool} (i : Nat) (hp : pureB all L i = true) (ho : all[i]? = some o) (hd : o.dst = some d) (hg : gdB all ρ o.guard = some c) (hgc : c = true) (hev : ∀ w, EV P n ρ w o v)
    (h : OrdX P n ds all k Φ m (L.set i true) ((d, v) :: ρ) w) : OrdX P n ds all k Φ (m + 1) L ρ w := by
  subst hgc
  intro hs hdo hcl hΦ a hr hds
  simp only [pureB, Bool.and_eq_true, bne_iff_ne] at hp
  have hdn : dOk n o.dst = true := by
    rw [List.all_eq_true] at hdo
    exact hdo o (by rw [← Array.getElem?_toList] at ho; exact List.mem_of_getElem? ho)
  refine wpAnyI_take ho hs hp.1.1 hp.1.2 (fun c a w hq => by obtain ⟨ρ', _, _, hq⟩ := hq; exact absurd hq (pan_no hΦ k c ρ' w)) (SF.inv hp.2) (G := fun _ => True) (fun _ _ _ _ _ => trivial) hcl (v := v) (.inl ⟨gdB_wanted hg hr, fun w' _ => hev w' a hr⟩) (fun _ => trivial) ?_
  have := h hs hdo (by rw [← List.setIfInBounds_toArray]; exact hcl.set (by simpa using hp.1.2)) hΦ (a.put o.dst v) (by have := hr.put hdn v; rw [hd] at this ⊢; exact this) (by rw [hd]; exact hds)
  rw [List.setIfInBounds_toArray]
  exact this
omit hT in
theorem OrdX.one_ {i : Nat} {o : Oper} (ho : all[i]? = some o) (hr : (Region.ready .any all L.toArray).contains i = true)
    (h : Ops none P n ds all (.lp (fun ρ1 w1 => OrdX P n ds all k Φ m (L.set i true) ρ1 w1) :: k) Φ [o] ρ w) (hs : Region.noSelect all = true) (hdo : (all.toList.all fun o => dOk n o.dst) = true) (hcl : Cl .any all L.toArray) (hΦ : ∀ c ρ w, ¬ Φ (.panic c) ρ w) {a : Act} (har : Rep n a ρ) (hds : a.defers = ds) :
    wpOp P all (lift n ds (Qof P n ds Φ k)) i (fun a' w' => SF all 9999 (fun _ => True) (L.toArray.setIfInBounds i true) w' ∧ wpAnyI P .any all (lift n ds (Qof P n ds Φ k)) (SF all 9999 (fun _ => True)) m (L.toArray.setIfInBounds i true) a' w') a w := by
  have hdn : dOk n o.dst = true := by
    rw [List.all_eq_true] at hdo
    exact hdo o (by rw [← Array.getElem?_toList] at ho; exact List.mem_of_getElem? ho)
  have h' : wpList P all (lift n ds (Qof P n ds Φ (.lp (fun ρ1 w1 => OrdX P n ds all k Φ m (L.set i true) ρ1 w1) :: k))) [o] a w := h (by simp [hdn]) a har hds
  have hcl' : Cl .any all (L.set i true).toArray := by rw [← List.setIfInBounds_toArray]; exact hcl.set (by simpa using hr)
  have hK : ∀ a' w', wpList P all (lift n ds (Qof P n ds Φ (.lp (fun ρ1 w1 => OrdX P n ds all k Φ m (L.set i true) ρ1 w1) :: k))) [] a' w' → SF all 9999 (fun _ => True) (L.toArray.setIfInBounds i true) w' ∧ wpAnyI P .any all (lift n ds (Qof P n ds Φ k)) (SF all 9999 (fun _ => True)) m (L.toArray.setIfInBounds i true) a' w' := by
    rintro a' w' ⟨ρ1, hr1, hd1, hO⟩
    rw [List.setIfInBounds_toArray]
    exact ⟨fun _ => trivial, hO hs hdo hcl' hΦ a' hr1 hd1⟩
  have hq : ∀ c a w, lift n ds (Qof P n ds Φ (.lp (fun ρ1 w1 => OrdX P n ds all k Φ m (L.set i true) ρ1 w1) :: k)) (.panic c) a w → lift n ds (Qof P n ds Φ k) (.panic c) a w := fun _ _ _ h => h
  unfold wpList at h'
  unfold wpOp
  simp only [ho]
  split
  · rename_i hw
    rw [if_pos hw] at h'
    rcases h' with h' | ⟨h1, a', w', h2⟩
    · left
      unfold Oper.wp at h' ⊢
      generalize (execOp a.eval o).run P w = r at *
      cases r with
      | ok nx w' =>
        cases nx <;> simp only [Oper.upon] at h' ⊢
        case value v => exact hK _ _ h'
        case skip => exact hK _ _ h'
        case defer d => exact hK _ _ h'
        case enter f args =>
          refine h'.mono fun e w'' he => ?_
          cases e with
          | returned v => exact hK _ _ he
          | panicked ch => exact hq _ _ _ he
          | outgrown => obtain ⟨a, w, ho⟩ := he; exact ⟨a, w, ho⟩
        case row r args => exact h'.mono fun v w'' hv => hK _ _ hv
      | halt x w' =>
        cases x <;> simp only [Oper.upon] at h' ⊢
        exact hq _ _ _ h'
    · exact .inr ⟨h1, a', w', h2⟩
  · rename_i hw
    rw [if_neg hw] at h'
    exact hK _ _ h'
omit hT in
theorem OrdX.both {oi oj : Oper} (i j : Nat) (hr : (Region.ready .any all L.toArray == [i, j]) = true) (hoi : all[i]? = some oi) (hoj : all[j]? = some oj)
    (h1 : Ops none P n ds all (.lp (fun ρ1 w1 => OrdX P n ds all k Φ m (L.set i true) ρ1 w1) :: k) Φ [oi] ρ w)
    (h2 : Ops none P n ds all (.lp (fun ρ1 w1 => OrdX P n ds all k Φ m (L.set j true) ρ1 w1) :: k) Φ [oj] ρ w) : OrdX P n ds all k Φ (m + 1) L ρ w := by
  have hr := eq_of_beq hr
  intro hs hdo hcl hΦ a har hds
  refine wpAnyI_all hr (by simp) fun q hq => ?_
  simp only [List.mem_cons, List.not_mem_nil, or_false] at hq
  rcases hq with rfl | rfl
  · exact OrdX.one_ hoi (by rw [hr]; simp) h1 hs hdo hcl hΦ har hds
  · exact OrdX.one_ hoj (by rw [hr]; simp) h2 hs hdo hcl hΦ har hds
omit hT in
theorem OrdX.one {oi : Oper} (i : Nat) (hr : (Region.ready .any all L.toArray == [i]) = true) (hoi : all[i]? = some oi)
    (h1 : Ops none P n ds all (.lp (fun ρ1 w1 => OrdX P n ds all k Φ m (L.set i true) ρ1 w1) :: k) Φ [oi] ρ w) : OrdX P n ds all k Φ (m + 1) L ρ w := by
  have hr := eq_of_beq hr
  intro hs hdo hcl hΦ a har hds
  refine wpAnyI_all hr (by simp) fun q hq => ?_
  simp only [List.mem_singleton] at hq
  subst hq
  exact OrdX.one_ hoi (by rw [hr]; simp) h1 hs hdo hcl hΦ har hds
omit hT in
theorem OrdX.done (hr : (Region.ready .any all L.toArray).isEmpty = true) (h : W P n ds k Φ ρ w) : OrdX P n ds all k Φ m L ρ w := fun _ _ _ _ a har hds => wpAnyI_done (by simpa using hr) ⟨ρ, har, hds, h⟩ _
omit hT in
theorem W.ordX {id : Nat} {ops : Array Oper} (m : Nat) (hm : P.follows .mixedOrders = true) (hs : Region.noSelect ops = true) (hlen : m = ops.size) (hΦ : ∀ c ρ w, ¬ Φ (.panic c) ρ w)
    (h : ∀ w', Kp (fun _ => False) w w' → OrdX P n ds ops k Φ m (List.replicate m false) ρ w') : W P n ds (.code (.region id ops true) :: k) Φ ρ w := by
  intro hi a hr hd
  refine wp_region_I (S := SF ops 9999 (fun _ => True)) hm ?_
  have := h _ (kp_drew w) hs (by simpa [inB] using hi) (by rw [List.toArray_replicate]; exact Cl.start _) hΦ a hr hd
  rw [← hlen]
  rw [List.toArray_replicate] at this
  exact this
theorem EV.bld2 {o : Oper} {t : Nat} {x y : Operand} {u v z0 z1 : Value} (ho : o.op = .build t #[(0, x), (1, y)])
    (ht : tyD P t = some (.struct [(0, 1), (1, 1)])) (hz : tyZ P t = some (.agg #[z0, z1])) (hx : ev ρ x = some u) (hy : ev ρ y = some v) (h1 : u.oneCell' = true) (h2 : v.oneCell' = true) : EV P n ρ w o (.agg #[u, v]) := by
  intro a hr
  obtain ⟨gs, hu, hm⟩ := td_struct (tyD_ok ht)
  have hsz : ∃ f g, gs = #[f, g] ∧ f.offset = 0 ∧ g.offset = 1 ∧ ((P.info? f.type).map (·.size)).getD 0 = 1 ∧ ((P.info? g.type).map (·.size)).getD 0 = 1 := by
    obtain ⟨L⟩ := gs
    rcases L with _ | ⟨f, _ | ⟨g, _ | ⟨h, r⟩⟩⟩
    · simp at hm
    · simp at hm
    · simp at hm; exact ⟨f, g, rfl, hm.1.1, hm.2.1, hm.1.2, hm.2.2⟩
    · simp at hm
  obtain ⟨f, g, rfl, hf0, hg1, hfs, hgs⟩ := hsz
  have q1 : ∃ i, P.info? f.type = some i ∧ i.size = 1 := by
    cases hi : P.info? f.type with
    | none => rw [hi] at hfs; simp at hfs
    | some i => rw [hi] at hfs; exact ⟨i, rfl, by simpa using hfs⟩
  have q2 : ∃ i, P.info? g.type = some i ∧ i.size = 1 := by
    cases hi : P.info? g.type with
    | none => rw [hi] at hgs; simp at hgs
    | some i => rw [hi] at hgs; exact ⟨i, rfl, by simpa using hgs⟩
  obtain ⟨i1, e1, s1⟩ := q1
  obtain ⟨i2, e2, s2⟩ := q2
  have hcu : u.cells = #[u] := by cases u <;> simp_all [Value.oneCell', Value.cells]
  have hcv : v.cells = #[v] := by cases v <;> simp_all [Value.oneCell', Value.cells]
  have hcz : (Value.agg #[z0, z1]).cells = #[z0, z1] := rfl
  simp only [execOp, ho]
  simp [Instr.build, hr.ev hx, hr.ev hy, run_zeroV hz, run_und hu, sizeOf, typeInfo, e1, e2, s1, s2, hf0, hg1, Instr.fill, hcu, hcv, hcz]
/-! ### Slices -/
/-- A literal of one element of two cells; then appended. -/
theorem Ord.push2 {i1 i2 : Nat} {o1 o2 : Oper} {d1 d2 t e by' nn : Nat} {x y : Operand} {a b lv z0 z1 : Value} {xs : List Value} {w0 : World}
    (e1 : all[i1]? = some o1) (h1 : o1.op = .buildSlice t 1 #[(0, x)]) (hd1 : o1.dst = some d1) (hg1 : o1.guard = none) (e2 : all[i2]? = some o2) (h2 : o2.op = .call { callee := .builtin .append, args := #[y, .tmp d1], argTypes := #[t, t] }) (hd2 : o2.dst = some d2) (hg2 : o2.guard = none)
    (ht : tyD P t = some (.slice e)) (hs : tyS P e = some 2) (hb : tyB P e = some (by' + 1)) (hz : tyZ P e = some (.agg #[z0, z1])) (hx : ev ρ x = some (.agg #[a, b])) (hy : ∀ p, ev ((d1, p) :: ρ) y = some lv) (ha : a.oneCell' = true) (hb1 : b.oneCell' = true)
    (hown : w.ownsRow 0 e 2 lv nn xs) (hbytes : (nn + 1) * (by' + 1) ≤ 140737488355328) (hF : ∀ w w' S, F w → Kp S w w' → (∀ i, S i → w0.heap.size ≤ i) → F w') (hw : F w) (hge : ∀ i, lv.ownBlock = some i → w0.heap.size ≤ i)
    (hk : ∀ lv' p w', F w' → w'.ownsRow 0 e 2 lv' (nn + 1) (xs ++ [a, b]) → Kp (fun i => lv.ownBlock = some i) w w' → (∀ i, lv'.ownBlock = some i → lv.ownBlock = some i ∨ w.heap.size ≤ i) → Ord P n ds all k Φ s F π ((L.set i1 true).set i2 true) ((d2, lv') :: (d1, p) :: ρ) w') : Ord P n ds all k Φ s F ((i1, 0) :: (i2, 0) :: π) L ρ w := by
  have hr2 : Array.range 2 = #[0, 1] := rfl
  refine Ord.effF e1 (Ops.bsG (cs := #[a, b]) h1 hd1 hg1 ht hs hz (vs := [(0, .agg #[a, b])]) (by simp [evP, hx]) rfl rfl (by simp [Instr.fill, Value.cells, hr2]) (fun w1 r hM => Ops.nil (W.endl ⟨hF _ _ _ hw hM.kp (fun _ e => e.elim), ?_⟩)))
  have hB : Blk w1 r #[a, b] e := hM.at_
  refine Ord.effF e2 (Ops.app (sz := 1) (news := [a, b]) (m := 1) (A := ⟨r, 0, none⟩) (c := 1) h2 hd2 hg2 ht hs hb hz rfl (hy _) (ev_top _ _ _) (own_kp hown hM.kp (fun _ _ e => e)) rfl ?_ (by simp [ha, hb1]) hbytes (fun v' w' ho hk' hn => Ops.nil (W.endl ?_)))
  · intro j u hu
    rw [add_lit, Nat.zero_add]
    exact hB.cell (by simpa using hu)
  · have hk2 : Kp (fun i => lv.ownBlock = some i) w w' := (hM.kp.trans hk').mono (fun i _ e => by rcases e with e | e; exact e.elim; exact e)
    have hF' := hF _ _ _ hw hk2 hge
    refine ⟨hF', hk v' _ w' hF' ho hk2 ?_⟩
    intro i hi
    rcases hn i hi with h | h
    · exact .inl h
    · right; have := hM.size; omega
/-- A literal of one element of one cell; then appended. -/
theorem Ord.pushO {α : Type} {enc : α → Value} {i1 i2 : Nat} {o1 o2 : Oper} {d1 d2 t e by' : Nat} {x y : Operand} {u : α} {lv z : Value} {xs : List α} {w0 : World}
    (e1 : all[i1]? = some o1) (h1 : o1.op = .buildSlice t 1 #[(0, x)]) (hd1 : o1.dst = some d1) (hg1 : o1.guard = none) (e2 : all[i2]? = some o2) (h2 : o2.op = .call { callee := .builtin .append, args := #[y, .tmp d1], argTypes := #[t, t] }) (hd2 : o2.dst = some d2) (hg2 : o2.guard = none)
    (ht : tyD P t = some (.slice e)) (hs : tyS P e = some 1) (hb : tyB P e = some (by' + 1)) (hz : tyZ P e = some z) (hzs : z.cells.size = 1) (hx : ev ρ x = some (enc u)) (hy : ∀ p, ev ((d1, p) :: ρ) y = some lv) (hu : (enc u).oneCell' = true)
    (hO : OI e enc w0 w lv xs) (hbytes : (xs.length + 1) * (by' + 1) ≤ 140737488355328) (hF : ∀ w w' S, F w → Kp S w w' → (∀ i, S i → w0.heap.size ≤ i) → F w') (hw : F w)
    (hk : ∀ lv' p w', F w' → OI e enc w0 w' lv' (xs ++ [u]) → Kp (fun i => lv.ownBlock = some i) w w' → (∀ i, lv'.ownBlock = some i → lv.ownBlock = some i ∨ w.heap.size ≤ i) → Ord P n ds all k Φ s F π ((L.set i1 true).set i2 true) ((d2, lv') :: (d1, p) :: ρ) w') : Ord P n ds all k Φ s F ((i1, 0) :: (i2, 0) :: π) L ρ w := by
  refine Ord.effF e1 (Ops.bs1 h1 hd1 hg1 ht hs hz hzs hx hu (fun w1 r hM => Ops.nil (W.endl ⟨hF _ _ _ hw hM.kp (fun _ e => e.elim), ?_⟩)))
  have hone := own_one hM
  refine Ord.effF e2 (Ops.app (sz := 0) (news := [enc u]) (m := 1) (A := ⟨r, 0, none⟩) (c := 1) h2 hd2 hg2 ht hs hb hz hzs (hy _) (ev_top _ _ _) (own_kp hO.own hM.kp (fun _ _ e => e)) rfl (hone.cells (g := r) rfl) (by simp [hu]) hbytes (fun v' w' ho hk' hn => Ops.nil (W.endl ?_)))
  have hk2 : Kp (fun i => lv.ownBlock = some i) w w' := (hM.kp.trans hk').mono (fun i _ e => by rcases e with e | e; exact e.elim; exact e)
  have hn2 : ∀ i, v'.ownBlock = some i → lv.ownBlock = some i ∨ w.heap.size ≤ i := fun i hi => by
    rcases hn i hi with h | h
    · exact .inl h
    · right; have := hM.size; omega
  have hF' := hF _ _ _ hw hk2 hO.ge
  exact ⟨hF', hk v' _ w' hF' ⟨Below.put hO.bel hk2 (fun i hi => hO.ge i hi), by simpa using ho, fun i hi => by rcases hn2 i hi with e | e; exact hO.ge i e; have := hO.bel.size; omega⟩ hk2 hn2⟩
theorem look_b {ρ : E} {d : Nat} {b c : Bool} (h : VW.look ρ d = some (.bool b)) (hb : b = c) : VW.look ρ d = some (.bool c) := by rw [h, hb]
theorem below_F {w0 : World} : ∀ w w' S, Below w0.heap.size w0 w → Kp S w w' → (∀ i, S i → w0.heap.size ≤ i) → Below w0.heap.size w0 w' := fun _ _ _ h k hs => Below.put h k hs
end
end Go.Proofs.Ytdiljpnfochndaa.VW
