/- A part of the walk: what this seat's statements share. -/
import Derived.Test.YtcmjlmnfdncajaaGreatDoorZG2
import Derived.Laws.CopyRow
import Derived.RangeFuncCalls
import Derived.OrdersIn
import Derived.TacticsIn
set_option linter.unusedVariables false
set_option linter.unusedSimpArgs false
set_option linter.unusedSectionVars false
/- Slices of the call's own, as lists. -/
namespace Go.Proofs.YtcmjlmnfdncajaaGreatDoor.VW
open Go Go.RowKit
theorem Below.put {w0 w w' : World} {S : Nat → Prop} (h : Below w0.heap.size w0 w) (k : Kp S w w') (hs : ∀ i, S i → w0.heap.size ≤ i) : Below w0.heap.size w0 w' := Kp.then h h.size k hs
structure OI {α : Type} (e : Nat) (enc : α → Value) (w0 w : World) (ov : Value) (os : List α) : Prop where
  bel : Below w0.heap.size w0 w
  own : w.ownsRow 0 e 1 ov os.length (os.map enc)
  ge : ∀ k, ov.ownBlock = some k → w0.heap.size ≤ k
theorem OI.kp {α : Type} {e : Nat} {enc : α → Value} {w0 w w' : World} {ov : Value} {os : List α} {S : Nat → Prop} (h : OI e enc w0 w ov os) (k : Kp S w w') (hs : ∀ i, S i → w0.heap.size ≤ i ∧ ov.ownBlock ≠ some i) : OI e enc w0 w' ov os :=
  ⟨Below.put h.bel k (fun i hi => (hs i hi).1), own_kp h.own k (fun i hi e => (hs i e).2 hi), h.ge⟩
theorem OI.sl {α : Type} {e : Nat} {enc : α → Value} {z : α} {w0 w : World} {ov : Value} {os : List α} (h : OI e enc w0 w ov os) : Sl enc z w ov os := own_sl h.own
/-- New memory alone was made. -/
theorem OI.below {α : Type} {e : Nat} {enc : α → Value} {w0 w w' : World} {ov : Value} {os : List α} (h : OI e enc w0 w ov os) (k : Below w.heap.size w w') : OI e enc w0 w' ov os :=
  ⟨Below.via h.bel k, own_kp h.own (Kp.of_below (S := fun _ => False) k) (fun _ _ e => e), h.ge⟩
theorem OI.up {α : Type} {e : Nat} {enc : α → Value} {w0 w1 w : World} {ov : Value} {os : List α} (h : OI e enc w1 w ov os) (k : Below w0.heap.size w0 w1) : OI e enc w0 w ov os :=
  ⟨Below.via k h.bel, h.own, fun i hi => by have := h.ge i hi; have := k.size; omega⟩
theorem OI.nil {α : Type} {e : Nat} {enc : α → Value} {w0 w : World} (h : Below w0.heap.size w0 w) : OI e enc w0 w (.slice none 0 0) [] := ⟨h, World.ownsRow_nil w 0 e 1, fun k hk => by simp [Value.ownBlock] at hk⟩
theorem OI.of {α : Type} {e : Nat} {enc : α → Value} {w0 w : World} {ov : Value} {os : List α} (h1 : Below w0.heap.size w0 w) (h2 : w.ownsRow 0 e 1 ov os.length (os.map enc)) (h3 : ∀ k, ov.ownBlock = some k → w0.heap.size ≤ k) : OI e enc w0 w ov os := ⟨h1, h2, h3⟩
theorem OI.sh {α : Type} {e : Nat} {enc : α → Value} {w0 w : World} {ov : Value} {os : List α} (h : OI e enc w0 w ov os) : ∃ A c, ov = .slice A os.length c := by
  have hs := h.own
  rcases hs.2 with ⟨h1, h2⟩ | ⟨g, cap, cur, h1, _⟩
  · exact ⟨none, 0, by rw [h1, h2]⟩
  · exact ⟨_, _, h1⟩
/-- Any slice of a list of one element values. -/
theorem lst_nat {i : Int} {n : Nat} (h0 : 0 ≤ i) (h : i < n) : i.toNat < n := by omega
section
variable {P : Program} [hT : Tab P] {n : Nat} {ds : List Deferred} {Φ : Post} {k : List It} {ρ : E} {w : World} {all : Array Oper} {l : List Oper} {md : Option (List Oper)}
theorem Ops.mkO {α : Type} (enc : α → Value) (z0 : α) {w0 : World} {o : Oper} {d t e by' : Nat} {x y : Operand} {i : Nat} (ho : o.op = .makeSlice t x y) (hd : o.dst = some d) (hg : o.guard = none)
    (ht : tyD P t = some (.slice e)) (hs : tyS P e = some 1) (hb : tyB P e = some (by' + 1)) (hz : tyZ P e = some (enc z0)) (hx : ev ρ x = some (.int .i64 (i : Int))) (hy : ev ρ y = some (.int .i64 (i : Int))) (h1 : i * (by' + 1) ≤ 140737488355328) (hz1 : (enc z0).cells = #[enc z0]) (hbel : Below w0.heap.size w0 w)
    (hk : ∀ w' r, OI e enc w0 w' (.slice (some ⟨r, 0, none⟩) i i) (List.replicate i z0) → Kp (fun _ => False) w w' → w.heap.size ≤ r → Ops none P n ds all k Φ l ((d, .slice (some ⟨r, 0, none⟩) i i) :: ρ) w') : Ops none P n ds all k Φ (o :: l) ρ w := by
  refine Ops.mkS ho hd hg ht hs hb hz hx hy (by omega) (by simpa using h1) (fun w' r hr k1 hl hown => ?_)
  simp only [Int.toNat_natCast] at hown ⊢
  refine hk w' r ⟨Below.put hbel k1 (fun _ e => e.elim), ?_, fun j hj => by simp [Value.ownBlock] at hj; have := hbel.size; omega⟩ k1 (by omega)
  have hm : (madeCells (enc z0).cells (i * 1)).toList = (List.replicate i z0).map enc := by rw [madeCells_one hz1, Nat.mul_one, List.map_replicate]
  rw [List.length_replicate, ← hm]
  exact hown
theorem Ops.wrO {α : Type} {enc : α → Value} {w0 : World} {o1 o2 : Oper} {d1 t t' e : Nat} {x y z : Operand} {v : Value} {u : α} {i : Nat} {os : List α}
    (ho : o1.op = .indexAddr t x y) (hd1 : o1.dst = some d1) (hg1 : o1.guard = none) (ho2 : o2.op = .store t' (.tmp d1) z) (hd2 : o2.dst = none) (hg2 : o2.guard = none)
    (ht : tyD P t = some (.slice e)) (hs : tyS P e = some 1) (hs' : tyS P t' = some 1) (hx : ev ρ x = some v) (hy : ev ρ y = some (.int .i64 (i : Int))) (hz : ev ρ z = some (enc u)) (hzd : z ≠ .tmp d1) (h1c : (enc u).oneCell' = true)
    (hO : OI e enc w0 w v os) (h1 : i < os.length)
    (hk : ∀ w' p, OI e enc w0 w' v (os.set i u) → Kp (fun b => v.ownBlock = some b) w w' → w'.heap.size = w.heap.size → Ops none P n ds all k Φ l ((d1, p) :: ρ) w') : Ops none P n ds all k Φ (o1 :: o2 :: l) ρ w := by
  refine Ops.wrS ho hd1 hg1 ho2 hd2 hg2 ht hs hs' hx hy hz hzd h1c hO.own (by omega) (by omega) (fun w' p hown k1 hsz => hk w' p ⟨Below.put hO.bel k1 (fun i hi => hO.ge i hi), ?_, hO.ge⟩ k1 hsz)
  rw [List.length_set, List.map_set]
  exact hown
theorem Ops.wrOi {α : Type} {enc : α → Value} {w0 : World} {o1 o2 : Oper} {d1 t t' e : Nat} {x y z : Operand} {v : Value} {u : α} {i : Int} {os : List α}
    (ho : o1.op = .indexAddr t x y) (hd1 : o1.dst = some d1) (hg1 : o1.guard = none) (ho2 : o2.op = .store t' (.tmp d1) z) (hd2 : o2.dst = none) (hg2 : o2.guard = none)
    (ht : tyD P t = some (.slice e)) (hs : tyS P e = some 1) (hs' : tyS P t' = some 1) (hx : ev ρ x = some v) (hy : ev ρ y = some (.int .i64 i)) (hz : ev ρ z = some (enc u)) (hzd : z ≠ .tmp d1) (h1c : (enc u).oneCell' = true)
    (hO : OI e enc w0 w v os) (h0 : 0 ≤ i) (h1 : i < os.length)
    (hk : ∀ w' p, OI e enc w0 w' v (os.set i.toNat u) → Kp (fun b => v.ownBlock = some b) w w' → w'.heap.size = w.heap.size → Ops none P n ds all k Φ l ((d1, p) :: ρ) w') : Ops none P n ds all k Φ (o1 :: o2 :: l) ρ w := by
  obtain ⟨q, rfl⟩ := Int.eq_ofNat_of_zero_le h0
  exact Ops.wrO ho hd1 hg1 ho2 hd2 hg2 ht hs hs' hx hy hz hzd h1c hO (by omega) hk
theorem Ops.pushO {α : Type} {enc : α → Value} {w0 : World} {o1 o2 : Oper} {d1 d2 t e by' : Nat} {x y : Operand} {u : α} {lv z : Value} {xs : List α}
    (h1 : o1.op = .buildSlice t 1 #[(0, x)]) (hd1 : o1.dst = some d1) (hg1 : o1.guard = none) (h2 : o2.op = .call { callee := .builtin .append, args := #[y, .tmp d1], argTypes := #[t, t] }) (hd2 : o2.dst = some d2) (hg2 : o2.guard = none)
    (ht : tyD P t = some (.slice e)) (hs : tyS P e = some 1) (hb : tyB P e = some (by' + 1)) (hz : tyZ P e = some z) (hzs : z.cells.size = 1) (hx : ev ρ x = some (enc u)) (hy : ∀ p, ev ((d1, p) :: ρ) y = some lv) (hu : (enc u).oneCell' = true)
    (hO : OI e enc w0 w lv xs) (hbytes : (xs.length + 1) * (by' + 1) ≤ 140737488355328)
    (hk : ∀ lv' p w', OI e enc w0 w' lv' (xs ++ [u]) → Kp (fun i => lv.ownBlock = some i) w w' → (∀ i, lv'.ownBlock = some i → lv.ownBlock = some i ∨ w.heap.size ≤ i) → Ops none P n ds all k Φ l ((d2, lv') :: (d1, p) :: ρ) w') : Ops none P n ds all k Φ (o1 :: o2 :: l) ρ w :=
  Ops.push h1 hd1 hg1 h2 hd2 hg2 ht hs hb hz hzs hx hy hu hO.own hbytes (fun lv' p w' hown k1 hn => hk lv' p w' ⟨Below.put hO.bel k1 (fun i hi => hO.ge i hi), by simpa using hown, fun i hi => by rcases hn i hi with e | e; exact hO.ge i e; have := hO.bel.size; omega⟩ k1 hn)
theorem Ops.appO {α : Type} {enc : α → Value} (z0 : α) {w0 w1 : World} {o : Oper} {d t e by' : Nat} {x y : Operand} {v yv z : Value} {xs ys : List α} (ho : o.op = .call { callee := .builtin .append, args := #[x, y], argTypes := #[t, t] }) (hd : o.dst = some d) (hg : o.guard = none)
    (ht : tyD P t = some (.slice e)) (hs : tyS P e = some 1) (hb : tyB P e = some (by' + 1)) (hz : tyZ P e = some z) (hzs : z.cells.size = 1) (hx : ev ρ x = some v) (hy : ev ρ y = some yv)
    (hO : OI e enc w0 w v xs) (hys : Sl enc z0 w1 yv ys) (hb1 : Below w1.heap.size w1 w) (h1 : ∀ u, (enc u).oneCell' = true) (hbytes : (xs.length + ys.length) * (by' + 1) ≤ 140737488355328)
    (hk : ∀ v' w', OI e enc w0 w' v' (xs ++ ys) → Kp (fun i => v.ownBlock = some i) w w' → (∀ i, v'.ownBlock = some i → v.ownBlock = some i ∨ w.heap.size ≤ i) → Ops none P n ds all k Φ l ((d, v') :: ρ) w') : Ops none P n ds all k Φ (o :: l) ρ w :=
  Ops.appS ho hd hg ht hs hb hz hzs hx hy hO.own (hys.below hb1) h1 hbytes (fun v' w' hown k1 hn => hk v' w' ⟨Below.put hO.bel k1 (fun i hi => hO.ge i hi), by simpa using hown, fun i hi => by rcases hn i hi with e | e; exact hO.ge i e; have := hO.bel.size; omega⟩ k1 hn)
end
end Go.Proofs.YtcmjlmnfdncajaaGreatDoor.VW
/- Drawn regions: the rules by decided guards, in an order of the prover's own; and writes at a region's end. -/
namespace Go.Proofs.YtcmjlmnfdncajaaGreatDoor.VW
open Go Go.RowKit
section
variable {P : Program} [hT : Tab P] {n : Nat} {ds : List Deferred} {Φ : Post} {k : List It} {ρ : E} {w : World} {all : Array Oper} {l : List Oper} {md : Option (List Oper)} {s : Nat} {F : World → Prop} {π : List (Nat × Nat)} {L : List Bool}
omit hT in
theorem Ord.pure {i d : Nat} {o : Oper} {v : Value} {c : Bool} (ho : all[i]? = some o) (hd : o.dst = some d) (hg : gdB all ρ o.guard = some c) (hgc : c = true) (hΦ : ∀ c ρ w, (Φ (.panic c) ρ w → Φ (.panic c) [] w)) (hev : ∀ w, EV P n ρ w o v)
    (h : Ord P n ds all k Φ s F π (L.set i true) ((d, v) :: ρ) w) : Ord P n ds all k Φ s F ((i, 1) :: π) L ρ w := by
  subst hgc
  exact Ord.takeY ho hd hΦ (fun a hr => .inl ⟨gdB_wanted hg hr, fun w' _ => hev w' a hr⟩) h
omit hT in
theorem Ord.read' {i d : Nat} {o : Oper} {v : Value} {c : Bool} (ho : all[i]? = some o) (hd : o.dst = some d) (hg : gdB all ρ o.guard = some c) (hgc : c = true) (hΦ : ∀ c ρ w, (Φ (.panic c) ρ w → Φ (.panic c) [] w)) (hev : ∀ w, F w → EV P n ρ w o v)
    (h : Ord P n ds all k Φ s F π (L.set i true) ((d, v) :: ρ) w) : Ord P n ds all k Φ s F ((i, 2) :: π) L ρ w := by
  subst hgc
  exact Ord.readY ho hd hΦ (fun a hr => .inl ⟨gdB_wanted hg hr, fun w' hF => hev w' hF a hr⟩) h
omit hT in
theorem Ord.no {i d m : Nat} {o : Oper} {c : Bool} (ho : all[i]? = some o) (hd : o.dst = some d) (hg : gdB all ρ o.guard = some c) (hgc : c = false) (hΦ : ∀ c ρ w, (Φ (.panic c) ρ w → Φ (.panic c) [] w)) (hm : m < 2)
    (h : Ord P n ds all k Φ s F π (L.set i true) ((d, undef) :: ρ) w) : Ord P n ds all k Φ s F ((i, m + 1) :: π) L ρ w := by
  subst hgc
  have : m = 0 ∨ m = 1 := by omega
  rcases this with rfl | rfl
  · exact Ord.takeY ho hd hΦ (fun a hr => .inr ⟨gdB_wanted hg hr, rfl⟩) h
  · exact Ord.readY ho hd hΦ (fun a hr => .inr ⟨gdB_wanted hg hr, rfl⟩) h
omit hT in
theorem Ord.lit {i m j g : Nat} {want b c : Bool} {o : Oper} (ho : all[i]? = some o) (hg : o.guard = some (j, want)) (hj : (all[j]?).bind (·.dst) = some g) (hv : VW.look ρ g = some (.bool b)) (hb : b = c)
    (h : Ord P n ds all k Φ s F ((i, m) :: π) L ((g, .bool c) :: ρ) w) : Ord P n ds all k Φ s F ((i, m) :: π) L ρ w := by
  intro h1 h2 h3 h4 h5 a hr hd
  refine h h1 h2 h3 h4 h5 a ⟨hr.size, fun t v hl => ?_⟩ hd
  simp only [look] at hl
  cases hb2 : Nat.beq g t with
  | true =>
    rw [hb2] at hl
    have := Nat.eq_of_beq_eq_true hb2
    subst this
    simp at hl
    rw [← hl, ← hb]
    exact hr.slot _ _ hv
  | false => rw [hb2] at hl; exact hr.slot _ _ hl
theorem Ord.rdS {α : Type} {enc : α → Value} {z : α} {i1 i2 d1 d2 t t' e : Nat} {o1 o2 : Oper} {x y : Operand} {v : Value} {i : Int} {xs : List α} {w0 : World} {c1 c2 : Bool}
    (h1 : all[i1]? = some o1) (ho : o1.op = .indexAddr t x y) (hd1 : o1.dst = some d1) (hg1 : gdB all ρ o1.guard = some c1) (hc1 : c1 = true)
    (h2 : all[i2]? = some o2) (ho2 : o2.op = .load t' (.tmp d1)) (hd2 : o2.dst = some d2) (hg2 : ∀ p, gdB all ((d1, .pointer p) :: ρ) o2.guard = some c2) (hc2 : c2 = true)
    (ht : tyD P t = some (.slice e)) (hs : tyS P e = some 1) (ha : tyAgg P t' = some false) (hx : ev ρ x = some v) (hy : ev ρ y = some (.int .i64 i)) (hsl : Sl enc z w0 v xs) (hF : ∀ w, F w → Below w0.heap.size w0 w) (h0 : 0 ≤ i) (hi : i < xs.length)
    (hΦ : ∀ c ρ w, (Φ (.panic c) ρ w → Φ (.panic c) [] w)) (hk : ∀ p, Ord P n ds all k Φ s F π ((L.set i1 true).set i2 true) ((d2, enc (xs.getD i.toNat z)) :: (d1, p) :: ρ) w) : Ord P n ds all k Φ s F ((i1, 1) :: (i2, 2) :: π) L ρ w := by
  obtain ⟨hm, A, c, rfl, h⟩ := hsl
  obtain ⟨a, rfl, hc⟩ := h (by omega)
  refine Ord.pure h1 hd1 hg1 hc1 hΦ (fun w => EV.idx ho ht hs hx hy h0 hi) ?_
  rw [Nat.mul_one]
  exact Ord.read' h2 hd2 (hg2 _) hc2 hΦ (fun w hw => EV.ld ho2 ha (ev_top _ _ _) (cell_kp (Kp.of_below (S := fun _ => False) (hF w hw)) (hc i.toNat (by omega)) (fun e => e))) (hk _)
theorem Ord.rdSn {α : Type} {enc : α → Value} {z : α} {i1 i2 d1 d2 t t' e : Nat} {o1 o2 : Oper} {x y : Operand} {v : Value} {i : Nat} {xs : List α} {w0 : World} {c1 c2 : Bool}
    (h1 : all[i1]? = some o1) (ho : o1.op = .indexAddr t x y) (hd1 : o1.dst = some d1) (hg1 : gdB all ρ o1.guard = some c1) (hc1 : c1 = true)
    (h2 : all[i2]? = some o2) (ho2 : o2.op = .load t' (.tmp d1)) (hd2 : o2.dst = some d2) (hg2 : ∀ p, gdB all ((d1, .pointer p) :: ρ) o2.guard = some c2) (hc2 : c2 = true)
    (ht : tyD P t = some (.slice e)) (hs : tyS P e = some 1) (ha : tyAgg P t' = some false) (hx : ev ρ x = some v) (hy : ev ρ y = some (.int .i64 (i : Int))) (hsl : Sl enc z w0 v xs) (hF : ∀ w, F w → Below w0.heap.size w0 w) (hi : i < xs.length)
    (hΦ : ∀ c ρ w, (Φ (.panic c) ρ w → Φ (.panic c) [] w)) (hk : ∀ p, Ord P n ds all k Φ s F π ((L.set i1 true).set i2 true) ((d2, enc (xs.getD i z)) :: (d1, p) :: ρ) w) : Ord P n ds all k Φ s F ((i1, 1) :: (i2, 2) :: π) L ρ w :=
  Ord.rdS h1 ho hd1 hg1 hc1 h2 ho2 hd2 hg2 hc2 ht hs ha hx hy hsl hF (by omega) (by omega) hΦ hk
/-- A store into a slice of the call's own, whose address is known. -/
theorem Ops.stO {α : Type} {enc : α → Value} {w0 : World} {o2 : Oper} {d1 t' e : Nat} {z : Operand} {v : Value} {u : α} {i : Nat} {os : List α} {a : Addr} {m c : Nat}
    (ho2 : o2.op = .store t' (.tmp d1) z) (hd2 : o2.dst = none) (hg2 : o2.guard = none) (hs' : tyS P t' = some 1) (hv : v = .slice (some a) m c) (hx : ev ρ (.tmp d1) = some (.pointer (some (a.add (i * 1))))) (hz : ev ρ z = some (enc u)) (h1c : (enc u).oneCell' = true)
    (hO : OI e enc w0 w v os) (h1 : i < os.length)
    (hk : ∀ w', OI e enc w0 w' v (os.set i u) → Kp (fun b => v.ownBlock = some b) w w' → w'.heap.size = w.heap.size → Ops none P n ds all k Φ l ρ w') : Ops none P n ds all k Φ (o2 :: l) ρ w := by
  subst hv
  have hown := hO.own
  rcases hown.2 with ⟨h2, _⟩ | ⟨g, cap, cur, h2, _, hg, hnc, hx2, hcs, ht'⟩
  · cases h2
  · cases h2
    have hst := hown.stored i (enc u)
    rw [add_lit, Nat.zero_add, Nat.mul_one] at hx
    refine Ops.st (b := g) (q := i) (cs := cur) (t' := e) ho2 hd2 hg2 hs' hx hz h1c hg (by rw [hcs]; omega) (fun w' hu => hk w' ⟨Below.put hO.bel (hu.kp.mono (S' := fun b => (Value.slice (some ⟨g, 0, none⟩) os.length c).ownBlock = some b) (fun i _ e => by simp [Value.ownBlock, e])) (fun i hi => hO.ge i hi), ?_, hO.ge⟩ ?_ hu.size)
    · refine ⟨by simp, .inr ⟨g, c, _, by rw [List.length_set], Nat.zero_le _, hu.blk, by simpa using hnc, by simpa using hx2, by simpa using hcs, ?_⟩⟩
      rw [Array.toList_setIfInBounds, List.length_set, List.map_set, ← ht', List.take_set]
    · exact hu.kp.mono (fun i _ e => by simp [Value.ownBlock, e])
omit hT in
theorem Qof.mono_lp' {J J' : E → World → Prop} (h : ∀ ρ w, J ρ w → J' ρ w) {o : Oper} (hh : Ops none P n ds all (.lp J :: k) Φ [o] ρ w) : Ops none P n ds all (.lp J' :: k) Φ [o] ρ w := by
  intro hi a hr hd
  refine wpList_mono (fun e a w hl => ?_) _ _ _ (hh hi a hr hd)
  obtain ⟨ρ1, hr1, hl⟩ := hl
  exact ⟨ρ1, hr1, hl.mono (fun w => Qof.mono_lp h e ρ1 w)⟩
omit hT in
/-- An operation at the end of a region, alone. -/
theorem Ord.effT {i : Nat} {o : Oper} (ho : all[i]? = some o) (h : Ops none P n ds all (.lp (fun ρ1 w1 => Ord P n ds all k Φ 9999 (fun _ => True) π (L.set i true) ρ1 w1) :: k) Φ [o] ρ w) : Ord P n ds all k Φ 9999 (fun _ => True) ((i, 0) :: π) L ρ w :=
  Ord.eff ho (Qof.mono_lp' (fun ρ w hJ => ⟨fun _ => trivial, hJ⟩) h)
omit hT in
/-- An operation behind which F still stands. -/
theorem Ord.effF {i : Nat} {o : Oper} (ho : all[i]? = some o) (h : Ops none P n ds all (.lp (fun ρ1 w1 => F w1 ∧ Ord P n ds all k Φ s F π (L.set i true) ρ1 w1) :: k) Φ [o] ρ w) : Ord P n ds all k Φ s F ((i, 0) :: π) L ρ w :=
  Ord.eff ho (Qof.mono_lp' (fun ρ w hJ => ⟨fun _ => hJ.1, hJ.2⟩) h)
omit hT in
theorem OrdA.eff {o : Oper} (ho : all[s]? = some o) (h : ∀ w, F w → Ops none P n ds all (.lp (fun ρ1 w1 => Ord P n ds all k Φ 9999 (fun _ => True) π (L.set s true) ρ1 w1) :: k) Φ [o] ρ w) : OrdA P n ds all k Φ s F ((s, 0) :: π) L ρ :=
  OrdA.tail fun w hw => Ord.effT ho (h w hw)
/-- An element is written at the end of a region. -/
theorem OrdA.wrO {α : Type} {enc : α → Value} {w0 wr : World} {i1 d1 t t' e : Nat} {o1 o2 : Oper} {x y z : Operand} {v : Value} {u : α} {i : Int} {os : List α} {c1 : Bool}
    (h1 : all[i1]? = some o1) (ho : o1.op = .indexAddr t x y) (hd1 : o1.dst = some d1) (hg1 : gdB all ρ o1.guard = some c1) (hc1 : c1 = true) (h2 : all[s]? = some o2) (ho2 : o2.op = .store t' (.tmp d1) z) (hd2 : o2.dst = none) (hg2 : o2.guard = none)
    (ht : tyD P t = some (.slice e)) (hs : tyS P e = some 1) (hs' : tyS P t' = some 1) (hx : ev ρ x = some v) (hy : ev ρ y = some (.int .i64 i)) (hz : ∀ p, ev ((d1, .pointer p) :: ρ) z = some (enc u)) (h1c : (enc u).oneCell' = true)
    (hO : OI e enc w0 wr v os) (hF : ∀ w, F w → Below wr.heap.size wr w) (h0 : 0 ≤ i) (hi : i < os.length)
    (hk : ∀ w w' p, F w → OI e enc w0 w' v (os.set i.toNat u) → Kp (fun b => v.ownBlock = some b) w w' → w'.heap.size = w.heap.size → Ord P n ds all k Φ 9999 (fun _ => True) π ((L.set i1 true).set s true) ((d1, p) :: ρ) w') : OrdA P n ds all k Φ s F ((i1, 1) :: (s, 0) :: π) L ρ := by
  obtain ⟨A, c, rfl⟩ := hO.sh
  have hA : ∃ a, A = some a := by
    cases A with
    | some a => exact ⟨a, rfl⟩
    | none =>
      rcases hO.own.2 with ⟨h2, h3⟩ | ⟨g, cap, cur, h2, _⟩
      · omega
      · cases h2
  obtain ⟨a, rfl⟩ := hA
  refine OrdA.pure h1 hd1 hg1 hc1 (fun w => EV.idx ho ht hs hx hy h0 hi) (OrdA.eff h2 fun w hw => ?_)
  exact Ops.stO (i := i.toNat) ho2 hd2 hg2 hs' rfl (ev_top _ _ _) (hz _) h1c (hO.below (hF w hw)) (by omega) (fun w' hO' k1 hsz => Ops.nil (W.endl (hk w w' _ hw hO' k1 hsz)))
end
end Go.Proofs.YtcmjlmnfdncajaaGreatDoor.VW
/- Drawn regions in which two effects may come in either order. -/
namespace Go.Proofs.YtcmjlmnfdncajaaGreatDoor.VW
open Go Go.RowKit
section
variable {P : Program} [hT : Tab P] {n : Nat} {ds : List Deferred} {Φ : Post} {k : List It} {ρ : E} {w : World} {all : Array Oper} {l : List Oper} {md : Option (List Oper)} {s : Nat} {F : World → Prop} {π : List (Nat × Nat)} {L : List Bool} {m : Nat}
def OrdX (P : Program) (n : Nat) (ds : List Deferred) (all : Array Oper) (k : List It) (Φ : Post) (m : Nat) (L : List Bool) (ρ : E) (w : World) : Prop :=
  Region.noSelect all = true → (all.toList.all fun o => dOk n o.dst) = true → Cl .any all L.toArray → (∀ c ρ w, (Φ (.panic c) ρ w → Φ (.panic c) [] w)) → ∀ a, Rep n a ρ → a.defers = ds → wpAnyI P .any all (lift n ds (Qof P n ds Φ k)) (SF all 9999 (fun _ => True)) m L.toArray a w
omit hT in
theorem OrdX.of {π : List (Nat × Nat)} (hc : chk all 9999 π L = true) (hm : m = π.length) (h : Ord P n ds all k Φ 9999 (fun _ => True) π L ρ w) : OrdX P n ds all k Φ m L ρ w := by
  subst hm
  exact fun h1 h2 h3 _ a hr hd => h hc h1 h2 h3 (fun _ => trivial) a hr hd
def pureB (all : Array Oper) (L : List Bool) (i : Nat) : Bool := Region.free .any all L.toArray i && (Region.ready .any all L.toArray).contains i && (i != 9999)
omit hT in
theorem OrdX.pure {d : Nat} {o : Oper} {v : Value} {c : Bool} (i : Nat) (hp : pureB all L i = true) (ho : all[i]? = some o) (hd : o.dst = some d) (hg : gdB all ρ o.guard = some c) (hgc : c = true) (hev : ∀ w, EV P n ρ w o v)
    (h : OrdX P n ds all k Φ m (L.set i true) ((d, v) :: ρ) w) : OrdX P n ds all k Φ (m + 1) L ρ w := by
  subst hgc
  intro hs hdo hcl hΦ a hr hds
  simp only [pureB, Bool.and_eq_true, bne_iff_ne] at hp
  have hdn : dOk n o.dst = true := by
    rw [List.all_eq_true] at hdo
    exact hdo o (by rw [← Array.getElem?_toList] at ho; exact List.mem_of_getElem? ho)
  refine wpAnyI_take ho hs hp.1.1 hp.1.2 (fun c a w hq => lift_pan hΦ hq) (SF.inv hp.2) (G := fun _ => True) (fun _ _ _ _ _ => trivial) hcl (v := v) (.inl ⟨gdB_wanted hg hr, fun w' _ => hev w' a hr⟩) (fun _ => trivial) ?_
  have := h hs hdo (by rw [← List.setIfInBounds_toArray]; exact hcl.set (by simpa using hp.1.2)) hΦ (a.put o.dst v) (by have := hr.put hdn v; rw [hd] at this ⊢; exact this) (by rw [hd]; exact hds)
  rw [List.setIfInBounds_toArray]
  exact this
omit hT in
theorem OrdX.one_ {i : Nat} {o : Oper} (ho : all[i]? = some o) (hr : (Region.ready .any all L.toArray).contains i = true)
    (h : Ops none P n ds all (.lp (fun ρ1 w1 => OrdX P n ds all k Φ m (L.set i true) ρ1 w1) :: k) Φ [o] ρ w) (hs : Region.noSelect all = true) (hdo : (all.toList.all fun o => dOk n o.dst) = true) (hcl : Cl .any all L.toArray) (hΦ : ∀ c ρ w, (Φ (.panic c) ρ w → Φ (.panic c) [] w)) {a : Act} (har : Rep n a ρ) (hds : a.defers = ds) :
    wpOp P all (lift n ds (Qof P n ds Φ k)) i (fun a' w' => SF all 9999 (fun _ => True) (L.toArray.setIfInBounds i true) w' ∧ wpAnyI P .any all (lift n ds (Qof P n ds Φ k)) (SF all 9999 (fun _ => True)) m (L.toArray.setIfInBounds i true) a' w') a w := by
  have hdn : dOk n o.dst = true := by
    rw [List.all_eq_true] at hdo
    exact hdo o (by rw [← Array.getElem?_toList] at ho; exact List.mem_of_getElem? ho)
  have h' : wpList P all (lift n ds (Qof P n ds Φ (.lp (fun ρ1 w1 => OrdX P n ds all k Φ m (L.set i true) ρ1 w1) :: k))) [o] a w := h (by simp [hdn]) a har hds
  have hcl' : Cl .any all (L.set i true).toArray := by rw [← List.setIfInBounds_toArray]; exact hcl.set (by simpa using hr)
  have hK : ∀ a' w', wpList P all (lift n ds (Qof P n ds Φ (.lp (fun ρ1 w1 => OrdX P n ds all k Φ m (L.set i true) ρ1 w1) :: k))) [] a' w' → SF all 9999 (fun _ => True) (L.toArray.setIfInBounds i true) w' ∧ wpAnyI P .any all (lift n ds (Qof P n ds Φ k)) (SF all 9999 (fun _ => True)) m (L.toArray.setIfInBounds i true) a' w' := by
    rintro a' w' ⟨ρ1, hr1, hd1, hO⟩
    rw [List.setIfInBounds_toArray]
    exact ⟨fun _ => trivial, hO hs hdo hcl' hΦ a' hr1 hd1⟩
  have hq : ∀ c a w, lift n ds (Qof P n ds Φ (.lp (fun ρ1 w1 => OrdX P n ds all k Φ m (L.set i true) ρ1 w1) :: k)) (.panic c) a w → lift n ds (Qof P n ds Φ k) (.panic c) a w := fun _ _ _ h => h
  unfold wpList at h'
  unfold wpOp
  simp only [ho]
  split
  · rename_i hw
    rw [if_pos hw] at h'
    rcases h' with h' | ⟨h1, a', w', h2⟩
    · left
      unfold Oper.wp at h' ⊢
      generalize (execOp a.eval o).run P w = r at *
      cases r with
      | ok nx w' =>
        cases nx <;> simp only [Oper.upon] at h' ⊢
        case value v => exact hK _ _ h'
        case skip => exact hK _ _ h'
        case defer d => exact hK _ _ h'
        case enter f args =>
          refine h'.mono fun e w'' he => ?_
          cases e with
          | returned v => exact hK _ _ he
          | panicked ch => exact hq _ _ _ he
          | outgrown => obtain ⟨a, w, ho⟩ := he; exact ⟨a, w, ho⟩
        case row r args => exact h'.mono fun v w'' hv => hK _ _ hv
      | halt x w' =>
        cases x <;> simp only [Oper.upon] at h' ⊢
        exact hq _ _ _ h'
    · exact .inr ⟨h1, a', w', h2⟩
  · rename_i hw
    rw [if_neg hw] at h'
    exact hK _ _ h'
omit hT in
theorem OrdX.both {oi oj : Oper} (i j : Nat) (hr : (Region.ready .any all L.toArray == [i, j]) = true) (hoi : all[i]? = some oi) (hoj : all[j]? = some oj)
    (h1 : Ops none P n ds all (.lp (fun ρ1 w1 => OrdX P n ds all k Φ m (L.set i true) ρ1 w1) :: k) Φ [oi] ρ w)
    (h2 : Ops none P n ds all (.lp (fun ρ1 w1 => OrdX P n ds all k Φ m (L.set j true) ρ1 w1) :: k) Φ [oj] ρ w) : OrdX P n ds all k Φ (m + 1) L ρ w := by
  have hr := eq_of_beq hr
  intro hs hdo hcl hΦ a har hds
  refine wpAnyI_all hr (by simp) fun q hq => ?_
  simp only [List.mem_cons, List.not_mem_nil, or_false] at hq
  rcases hq with rfl | rfl
  · exact OrdX.one_ hoi (by rw [hr]; simp) h1 hs hdo hcl hΦ har hds
  · exact OrdX.one_ hoj (by rw [hr]; simp) h2 hs hdo hcl hΦ har hds
omit hT in
theorem OrdX.one {oi : Oper} (i : Nat) (hr : (Region.ready .any all L.toArray == [i]) = true) (hoi : all[i]? = some oi)
    (h1 : Ops none P n ds all (.lp (fun ρ1 w1 => OrdX P n ds all k Φ m (L.set i true) ρ1 w1) :: k) Φ [oi] ρ w) : OrdX P n ds all k Φ (m + 1) L ρ w := by
  have hr := eq_of_beq hr
  intro hs hdo hcl hΦ a har hds
  refine wpAnyI_all hr (by simp) fun q hq => ?_
  simp only [List.mem_singleton] at hq
  subst hq
  exact OrdX.one_ hoi (by rw [hr]; simp) h1 hs hdo hcl hΦ har hds
omit hT in
theorem OrdX.done (hr : (Region.ready .any all L.toArray).isEmpty = true) (h : W P n ds k Φ ρ w) : OrdX P n ds all k Φ m L ρ w := fun _ _ _ _ a har hds => wpAnyI_done (by simpa using hr) ⟨ρ, har, LiftD.mk hds h⟩ _
omit hT in
theorem W.ordX {id : Nat} {ops : Array Oper} (m : Nat) (hm : P.follows .mixedOrders = true) (hs : Region.noSelect ops = true) (hlen : m = ops.size) (hΦ : ∀ c ρ w, (Φ (.panic c) ρ w → Φ (.panic c) [] w))
    (h : ∀ w', Kp (fun _ => False) w w' → OrdX P n ds ops k Φ m (List.replicate m false) ρ w') : W P n ds (.code (.region id ops true) :: k) Φ ρ w := by
  intro hi a hr hd
  refine wp_region_I (S := SF ops 9999 (fun _ => True)) hm ?_
  have := h _ (kp_drew w) hs (by simpa [inB] using hi) (by rw [List.toArray_replicate]; exact Cl.start _) hΦ a hr hd
  rw [← hlen]
  rw [List.toArray_replicate] at this
  exact this
theorem EV.bld2 {o : Oper} {t : Nat} {x y : Operand} {u v z0 z1 : Value} (ho : o.op = .build t #[(0, x), (1, y)])
    (ht : tyD P t = some (.struct [(0, 1), (1, 1)])) (hz : tyZ P t = some (.agg #[z0, z1])) (hx : ev ρ x = some u) (hy : ev ρ y = some v) (h1 : u.oneCell' = true) (h2 : v.oneCell' = true) : EV P n ρ w o (.agg #[u, v]) := by
  intro a hr
  obtain ⟨gs, hu, hm⟩ := td_struct (tyD_ok ht)
  have hsz : ∃ f g, gs = #[f, g] ∧ f.offset = 0 ∧ g.offset = 1 ∧ ((P.info? f.type).map (·.size)).getD 0 = 1 ∧ ((P.info? g.type).map (·.size)).getD 0 = 1 := by
    obtain ⟨L⟩ := gs
    rcases L with _ | ⟨f, _ | ⟨g, _ | ⟨h, r⟩⟩⟩
    · simp at hm
    · simp at hm
    · simp at hm; exact ⟨f, g, rfl, hm.1.1, hm.2.1, hm.1.2, hm.2.2⟩
    · simp at hm
  obtain ⟨f, g, rfl, hf0, hg1, hfs, hgs⟩ := hsz
  have q1 : ∃ i, P.info? f.type = some i ∧ i.size = 1 := by
    cases hi : P.info? f.type with
    | none => rw [hi] at hfs; simp at hfs
    | some i => rw [hi] at hfs; exact ⟨i, rfl, by simpa using hfs⟩
  have q2 : ∃ i, P.info? g.type = some i ∧ i.size = 1 := by
    cases hi : P.info? g.type with
    | none => rw [hi] at hgs; simp at hgs
    | some i => rw [hi] at hgs; exact ⟨i, rfl, by simpa using hgs⟩
  obtain ⟨i1, e1, s1⟩ := q1
  obtain ⟨i2, e2, s2⟩ := q2
  have hcu : u.cells = #[u] := by cases u <;> simp_all [Value.oneCell', Value.cells]
  have hcv : v.cells = #[v] := by cases v <;> simp_all [Value.oneCell', Value.cells]
  have hcz : (Value.agg #[z0, z1]).cells = #[z0, z1] := rfl
  simp only [execOp, ho]
  simp [Instr.build, hr.ev hx, hr.ev hy, run_zeroV hz, run_und hu, sizeOf, typeInfo, e1, e2, s1, s2, hf0, hg1, Instr.fill, hcu, hcv, hcz]
/-! ### Slices -/
/-- A literal of one element of two cells; then appended. -/
theorem Ord.push2 {i1 i2 : Nat} {o1 o2 : Oper} {d1 d2 t e by' nn : Nat} {x y : Operand} {a b lv z0 z1 : Value} {xs : List Value} {w0 : World}
    (e1 : all[i1]? = some o1) (h1 : o1.op = .buildSlice t 1 #[(0, x)]) (hd1 : o1.dst = some d1) (hg1 : o1.guard = none) (e2 : all[i2]? = some o2) (h2 : o2.op = .call { callee := .builtin .append, args := #[y, .tmp d1], argTypes := #[t, t] }) (hd2 : o2.dst = some d2) (hg2 : o2.guard = none)
    (ht : tyD P t = some (.slice e)) (hs : tyS P e = some 2) (hb : tyB P e = some (by' + 1)) (hz : tyZ P e = some (.agg #[z0, z1])) (hx : ev ρ x = some (.agg #[a, b])) (hy : ∀ p, ev ((d1, p) :: ρ) y = some lv) (ha : a.oneCell' = true) (hb1 : b.oneCell' = true)
    (hown : w.ownsRow 0 e 2 lv nn xs) (hbytes : (nn + 1) * (by' + 1) ≤ 140737488355328) (hF : ∀ w w' S, F w → Kp S w w' → (∀ i, S i → w0.heap.size ≤ i) → F w') (hw : F w) (hge : ∀ i, lv.ownBlock = some i → w0.heap.size ≤ i)
    (hk : ∀ lv' p w', F w' → w'.ownsRow 0 e 2 lv' (nn + 1) (xs ++ [a, b]) → Kp (fun i => lv.ownBlock = some i) w w' → (∀ i, lv'.ownBlock = some i → lv.ownBlock = some i ∨ w.heap.size ≤ i) → Ord P n ds all k Φ s F π ((L.set i1 true).set i2 true) ((d2, lv') :: (d1, p) :: ρ) w') : Ord P n ds all k Φ s F ((i1, 0) :: (i2, 0) :: π) L ρ w := by
  have hr2 : Array.range 2 = #[0, 1] := rfl
  refine Ord.effF e1 (Ops.bsG (cs := #[a, b]) h1 hd1 hg1 ht hs hz (vs := [(0, .agg #[a, b])]) (by simp [evP, hx]) rfl rfl (by simp [Instr.fill, Value.cells, hr2]) (fun w1 r hM => Ops.nil (W.endl ⟨hF _ _ _ hw hM.kp (fun _ e => e.elim), ?_⟩)))
  have hB : Blk w1 r #[a, b] e := hM.at_
  refine Ord.effF e2 (Ops.app (sz := 1) (news := [a, b]) (m := 1) (A := ⟨r, 0, none⟩) (c := 1) h2 hd2 hg2 ht hs hb hz rfl (hy _) (ev_top _ _ _) (own_kp hown hM.kp (fun _ _ e => e)) rfl ?_ (by simp [ha, hb1]) hbytes (fun v' w' ho hk' hn => Ops.nil (W.endl ?_)))
  · intro j u hu
    rw [add_lit, Nat.zero_add]
    exact hB.cell (by simpa using hu)
  · have hk2 : Kp (fun i => lv.ownBlock = some i) w w' := (hM.kp.trans hk').mono (fun i _ e => by rcases e with e | e; exact e.elim; exact e)
    have hF' := hF _ _ _ hw hk2 hge
    refine ⟨hF', hk v' _ w' hF' ho hk2 ?_⟩
    intro i hi
    rcases hn i hi with h | h
    · exact .inl h
    · right; have := hM.size; omega
/-- A literal of one element of one cell; then appended. -/
theorem Ord.pushO {α : Type} {enc : α → Value} {i1 i2 : Nat} {o1 o2 : Oper} {d1 d2 t e by' : Nat} {x y : Operand} {u : α} {lv z : Value} {xs : List α} {w0 : World}
    (e1 : all[i1]? = some o1) (h1 : o1.op = .buildSlice t 1 #[(0, x)]) (hd1 : o1.dst = some d1) (hg1 : o1.guard = none) (e2 : all[i2]? = some o2) (h2 : o2.op = .call { callee := .builtin .append, args := #[y, .tmp d1], argTypes := #[t, t] }) (hd2 : o2.dst = some d2) (hg2 : o2.guard = none)
    (ht : tyD P t = some (.slice e)) (hs : tyS P e = some 1) (hb : tyB P e = some (by' + 1)) (hz : tyZ P e = some z) (hzs : z.cells.size = 1) (hx : ev ρ x = some (enc u)) (hy : ∀ p, ev ((d1, p) :: ρ) y = some lv) (hu : (enc u).oneCell' = true)
    (hO : OI e enc w0 w lv xs) (hbytes : (xs.length + 1) * (by' + 1) ≤ 140737488355328) (hF : ∀ w w' S, F w → Kp S w w' → (∀ i, S i → w0.heap.size ≤ i) → F w') (hw : F w)
    (hk : ∀ lv' p w', F w' → OI e enc w0 w' lv' (xs ++ [u]) → Kp (fun i => lv.ownBlock = some i) w w' → (∀ i, lv'.ownBlock = some i → lv.ownBlock = some i ∨ w.heap.size ≤ i) → Ord P n ds all k Φ s F π ((L.set i1 true).set i2 true) ((d2, lv') :: (d1, p) :: ρ) w') : Ord P n ds all k Φ s F ((i1, 0) :: (i2, 0) :: π) L ρ w := by
  refine Ord.effF e1 (Ops.bs1 h1 hd1 hg1 ht hs hz hzs hx hu (fun w1 r hM => Ops.nil (W.endl ⟨hF _ _ _ hw hM.kp (fun _ e => e.elim), ?_⟩)))
  have hone := own_one hM
  refine Ord.effF e2 (Ops.app (sz := 0) (news := [enc u]) (m := 1) (A := ⟨r, 0, none⟩) (c := 1) h2 hd2 hg2 ht hs hb hz hzs (hy _) (ev_top _ _ _) (own_kp hO.own hM.kp (fun _ _ e => e)) rfl (hone.cells (g := r) rfl) (by simp [hu]) hbytes (fun v' w' ho hk' hn => Ops.nil (W.endl ?_)))
  have hk2 : Kp (fun i => lv.ownBlock = some i) w w' := (hM.kp.trans hk').mono (fun i _ e => by rcases e with e | e; exact e.elim; exact e)
  have hn2 : ∀ i, v'.ownBlock = some i → lv.ownBlock = some i ∨ w.heap.size ≤ i := fun i hi => by
    rcases hn i hi with h | h
    · exact .inl h
    · right; have := hM.size; omega
  have hF' := hF _ _ _ hw hk2 hO.ge
  exact ⟨hF', hk v' _ w' hF' ⟨Below.put hO.bel hk2 (fun i hi => hO.ge i hi), by simpa using ho, fun i hi => by rcases hn2 i hi with e | e; exact hO.ge i e; have := hO.bel.size; omega⟩ hk2 hn2⟩
theorem look_b {ρ : E} {d : Nat} {b c : Bool} (h : VW.look ρ d = some (.bool b)) (hb : b = c) : VW.look ρ d = some (.bool c) := by rw [h, hb]
theorem below_F {w0 : World} : ∀ w w' S, Below w0.heap.size w0 w → Kp S w w' → (∀ i, S i → w0.heap.size ≤ i) → Below w0.heap.size w0 w' := fun _ _ _ h k hs => Below.put h k hs
end
end Go.Proofs.YtcmjlmnfdncajaaGreatDoor.VW
/- The rules once more, with standing arguments: the texts of the walks get short. -/
namespace Go.Proofs.YtcmjlmnfdncajaaGreatDoor.VW
open Go Go.RowKit
theorem bnf_t (p : Prop) [Decidable p] : (decide p = true) = p := decide_eq_true_eq
theorem bnf : (∀ n : Nat, (n : Int).toNat = n) ∧ (∀ a : Int, (a == a) = true) ∧ (∀ a : Bool, (a == a) = true) ∧ (∀ (p : Prop) [Decidable p], (decide p = true) = p) ∧ (∀ (p : Prop) [Decidable p], (decide p = false) = ¬ p) ∧ (∀ a b : Int, ((a == b) = true) = (a = b)) ∧ (∀ a b : Int, ((a == b) = false) = ¬ (a = b)) ∧ (∀ a b : Int, ((a != b) = true) = ¬ (a = b)) ∧ (∀ a b : Int, ((a != b) = false) = (a = b)) ∧
    ((!true) = false) ∧ ((!false) = true) ∧ (∀ b : Bool, ((!b) = true) = (b = false)) ∧ (∀ b : Bool, ((!b) = false) = (b = true)) ∧ (∀ b : Bool, (b == true) = b) ∧ (∀ b : Bool, (b == false) = !b) ∧ (∀ b : Bool, (!!b) = b) ∧ (∀ a b : Int, (a > b) = (b < a)) ∧ (∀ a b : Int, (a ≥ b) = (b ≤ a)) ∧
    (∀ a b : Bool, ((a && b) = true) = (a = true ∧ b = true)) ∧ (∀ a b : Bool, ((a || b) = true) = (a = true ∨ b = true)) ∧ (∀ a b : Bool, ((a && b) = false) = (a = false ∨ b = false)) ∧ (∀ a b : Bool, ((a || b) = false) = (a = false ∧ b = false)) ∧ (∀ (p : Prop) [Decidable p], (!decide p) = decide (¬ p)) ∧ (∀ a b : Int, (a ≠ b) = ¬ (a = b)) := by
  refine ⟨fun _ => rfl, by simp, by simp, by simp, by simp, by simp, by simp, by simp, by simp, rfl, rfl, by simp, by simp, by simp, by simp, by simp, by simp, by simp, by simp, by simp, by simp, by simp, by simp, by simp⟩
section
variable {P : Program} [hT : Tab P] {n : Nat} {ds : List Deferred} {Φ : Post} {k : List It} {ρ : E} {w : World} {all : Array Oper} {l : List Oper} {md : Option (List Oper)} {s : Nat} {F : World → Prop} {π : List (Nat × Nat)} {L : List Bool}
theorem z_p {o : Oper} {v : Value} {d : Nat} (hd : o.dst = some d := by exact rfl) (hg : o.guard = none := by exact rfl) (h : pureV ρ o.op = some v := by exact rfl) (kk : Ops md P n ds all k Φ l ((d, v) :: ρ) w) : Ops md P n ds all k Φ (o :: l) ρ w := Ops.pu hd hg h kk
theorem z_a {o : Oper} {x : Int} {d : Nat} (hd : o.dst = some d := by exact rfl) (hg : o.guard = none := by exact rfl) (h : arV ρ o.op = some x := by exact rfl) (hb : -9223372036854775808 ≤ x ∧ x ≤ 9223372036854775807 := by omega) (kk : Ops md P n ds all k Φ l ((d, .int .i64 x) :: ρ) w) : Ops md P n ds all k Φ (o :: l) ρ w := Ops.ar hd hg h hb kk
theorem z_y {o : Oper} {j : Nat} {want : Bool} {d : Nat} (hg : o.guard = some (j, want) := by exact rfl) (hj : (all[j]?).bind (·.dst) = some d := by exact rfl) (hv : look ρ d = some (.bool want) := by exact rfl) (kk : Ops md P n ds all k Φ ({ o with guard := none } :: l) ρ w) : Ops md P n ds all k Φ (o :: l) ρ w := Ops.yes hg hj hv kk
theorem z_n {o : Oper} {j : Nat} {want b : Bool} {d d' : Nat} (hdst : o.dst = some d' := by exact rfl) (hg : o.guard = some (j, want) := by exact rfl) (hj : (all[j]?).bind (·.dst) = some d := by exact rfl) (hv : look ρ d = some (.bool b) := by exact rfl) (hne : b = !want := by exact rfl) (kk : Ops md P n ds all k Φ l ((d', undef) :: ρ) w) : Ops md P n ds all k Φ (o :: l) ρ w := Ops.no hdst hg hj hv hne kk
theorem z_u {o : Oper} {j : Nat} {want : Bool} {d d' : Nat} (hdst : o.dst = some d' := by exact rfl) (hg : o.guard = some (j, want) := by exact rfl) (hj : (all[j]?).bind (·.dst) = some d := by exact rfl) (hv : look ρ d = some undef := by exact rfl) (kk : Ops md P n ds all k Φ l ((d', undef) :: ρ) w) : Ops md P n ds all k Φ (o :: l) ρ w := Ops.nu hdst hg hj hv kk
theorem z_l {o : Oper} {d t e m c : Nat} {x : Operand} {A : Option Addr} (ho : o.op = .call { callee := .builtin .len, args := #[x], argTypes := #[t] } := by exact rfl) (hd : o.dst = some d := by exact rfl) (hg : o.guard = none := by exact rfl) (ht : tyD P t = some (.slice e) := by exact rfl) (hx : ev ρ x = some (.slice A m c) := by exact rfl) (kk : Ops md P n ds all k Φ l ((d, .int .i64 m) :: ρ) w) : Ops md P n ds all k Φ (o :: l) ρ w := Ops.len ho hd hg ht hx kk
theorem z_f {o : Oper} {d t i off sz b q : Nat} {x : Operand} (ho : o.op = .fieldAddr t x i := by exact rfl) (hd : o.dst = some d := by exact rfl) (hg : o.guard = none := by exact rfl) (ht : fieldOff P t i = some (off, sz + 1) := by exact rfl) (hx : ev ρ x = some (.pointer (some ⟨b, q, none⟩)) := by exact rfl) (kk : Ops md P n ds all k Φ l ((d, .pointer (some ⟨b, q + off, none⟩)) :: ρ) w) : Ops md P n ds all k Φ (o :: l) ρ w := Ops.flp ho hd hg ht hx kk
theorem z_M {o : Oper} {d : Nat} {x y : Operand} {ts : Array TypeId} {a b : Int} (ho : o.op = .call { callee := .builtin .max, args := #[x, y], argTypes := ts } := by exact rfl) (hd : o.dst = some d := by exact rfl) (hg : o.guard = none := by exact rfl) (hx : ev ρ x = some (.int .i64 a) := by exact rfl) (hy : ev ρ y = some (.int .i64 b) := by exact rfl) (kk : Ops md P n ds all k Φ l ((d, .int .i64 (Max.max a b)) :: ρ) w) : Ops md P n ds all k Φ (o :: l) ρ w := Ops.max ho hd hg hx hy kk
theorem z_m {o : Oper} {d : Nat} {x y : Operand} {ts : Array TypeId} {a b : Int} (ho : o.op = .call { callee := .builtin .min, args := #[x, y], argTypes := ts } := by exact rfl) (hd : o.dst = some d := by exact rfl) (hg : o.guard = none := by exact rfl) (hx : ev ρ x = some (.int .i64 a) := by exact rfl) (hy : ev ρ y = some (.int .i64 b) := by exact rfl) (kk : Ops md P n ds all k Φ l ((d, .int .i64 (Min.min a b)) :: ρ) w) : Ops md P n ds all k Φ (o :: l) ρ w := Ops.min ho hd hg hx hy kk
theorem z_e {o : Oper} {d t t' : Nat} {x y : Operand} {a b : Bool} (ho : o.op = .binOp .eql t x y t' := by exact rfl) (hd : o.dst = some d := by exact rfl) (hg : o.guard = none := by exact rfl) (ht : tyD P t = some .bool := by exact rfl) (hx : ev ρ x = some (.bool a) := by exact rfl) (hy : ev ρ y = some (.bool b) := by exact rfl) (kk : Ops md P n ds all k Φ l ((d, .bool (a == b)) :: ρ) w) : Ops md P n ds all k Φ (o :: l) ρ w := Ops.eqB ho hd hg ht hx hy kk
theorem z_E {o : Oper} {d t t' : Nat} {x y : Operand} {a b : Bool} (ho : o.op = .binOp .neq t x y t' := by exact rfl) (hd : o.dst = some d := by exact rfl) (hg : o.guard = none := by exact rfl) (ht : tyD P t = some .bool := by exact rfl) (hx : ev ρ x = some (.bool a) := by exact rfl) (hy : ev ρ y = some (.bool b) := by exact rfl) (kk : Ops md P n ds all k Φ l ((d, .bool (!(a == b))) :: ρ) w) : Ops md P n ds all k Φ (o :: l) ρ w := Ops.neB ho hd hg ht hx hy kk
theorem z_d {o : Oper} {d t b q t' : Nat} {x : Operand} {cs : Array Value} {v : Value} (ho : o.op = .load t x := by exact rfl) (hd : o.dst = some d := by exact rfl) (hg : o.guard = none := by exact rfl) (ht : tyAgg P t = some false := by exact rfl) (hx : ev ρ x = some (.pointer (some ⟨b, q, none⟩)) := by exact rfl) (hb : Blk w b cs t' := by assumption) (hi : nth cs.toList q = some v := by exact rfl) (kk : Ops md P n ds all k Φ l ((d, v) :: ρ) w) : Ops md P n ds all k Φ (o :: l) ρ w := Ops.ldB ho hd hg ht hx hb hi kk
theorem z_g {o : Oper} {j : Nat} {want b : Bool} {d d' : Nat} (hdst : o.dst = some d' := by exact rfl) (hg : o.guard = some (j, want) := by exact rfl) (hj : (all[j]?).bind (·.dst) = some d := by exact rfl) (hv : VW.look ρ d = some (.bool b) := by exact rfl) (hb : b = !want := by first | assumption | (simp only [bnf]; omega) | (simp only [*, bnf]; done) | fail) (kk : Ops md P n ds all k Φ l ((d', undef) :: (d, .bool (!want)) :: ρ) w) : Ops md P n ds all k Φ (o :: l) ρ w := Ops.noB hdst hg hj hv hb kk
theorem z_h {o : Oper} {j : Nat} {want b : Bool} {d d' : Nat} (hdst : o.dst = some d' := by exact rfl) (hg : o.guard = some (j, want) := by exact rfl) (hj : (all[j]?).bind (·.dst) = some d := by exact rfl) (hv : VW.look ρ d = some (.bool b) := by exact rfl) (hb : b = want := by first | assumption | (simp only [bnf]; omega) | (simp only [*, bnf]; done) | fail) (kk : Ops md P n ds all k Φ ({ o with guard := none } :: l) ((d, .bool want) :: ρ) w) : Ops md P n ds all k Φ (o :: l) ρ w := Ops.yesB hdst hg hj hv hb kk
theorem z_I {o1 o2 : Oper} {d1 d2 t t' e : Nat} {x y : Operand} {v : Value} {i : Nat} {xs : List Int} {w0 : World} {c1 c2 : Bool} (ho : o1.op = .indexAddr t x y := by exact rfl) (hd1 : o1.dst = some d1 := by exact rfl) (hg1 : gdB all ρ o1.guard = some c1 := by exact rfl) (hc1 : c1 = true := by exact rfl) (ho2 : o2.op = .load t' (.tmp d1) := by exact rfl) (hd2 : o2.dst = some d2 := by exact rfl) (hg2 : ∀ p, gdB all ((d1, .pointer p) :: ρ) o2.guard = some c2 := by exact fun _ => rfl) (hc2 : c2 = true := by exact rfl) (ht : tyD P t = some (.slice e) := by exact rfl) (hs : tyS P e = some 1 := by exact rfl) (ha : tyAgg P t' = some false := by exact rfl) (hx : ev ρ x = some v := by exact rfl) (hy : ev ρ y = some (.int .i64 (i : Int)) := by exact rfl) (hsl : SlI w0 v xs := by first | assumption | exact OI.sl (by assumption)) (hb : Below w0.heap.size w0 w := by first | assumption | exact Below.refl _ _) (h1 : i < xs.length := by omega) (kk : ∀ p, Ops md P n ds all k Φ l ((d2, Value.int .i64 (xs.getD i 0)) :: (d1, p) :: ρ) w) : Ops md P n ds all k Φ (o1 :: o2 :: l) ρ w := Ops.rdBn ho hd1 hg1 hc1 ho2 hd2 hg2 hc2 ht hs ha hx hy hsl hb h1 kk
theorem z_J {o1 o2 : Oper} {d1 d2 t t' e : Nat} {x y : Operand} {v : Value} {i : Nat} {xs : List Bool} {w0 : World} {c1 c2 : Bool} (ho : o1.op = .indexAddr t x y := by exact rfl) (hd1 : o1.dst = some d1 := by exact rfl) (hg1 : gdB all ρ o1.guard = some c1 := by exact rfl) (hc1 : c1 = true := by exact rfl) (ho2 : o2.op = .load t' (.tmp d1) := by exact rfl) (hd2 : o2.dst = some d2 := by exact rfl) (hg2 : ∀ p, gdB all ((d1, .pointer p) :: ρ) o2.guard = some c2 := by exact fun _ => rfl) (hc2 : c2 = true := by exact rfl) (ht : tyD P t = some (.slice e) := by exact rfl) (hs : tyS P e = some 1 := by exact rfl) (ha : tyAgg P t' = some false := by exact rfl) (hx : ev ρ x = some v := by exact rfl) (hy : ev ρ y = some (.int .i64 (i : Int)) := by exact rfl) (hsl : SlB w0 v xs := by first | assumption | exact OI.sl (by assumption)) (hb : Below w0.heap.size w0 w := by first | assumption | exact Below.refl _ _) (h1 : i < xs.length := by omega) (kk : ∀ p, Ops md P n ds all k Φ l ((d2, Value.bool (xs.getD i false)) :: (d1, p) :: ρ) w) : Ops md P n ds all k Φ (o1 :: o2 :: l) ρ w := Ops.rdBn ho hd1 hg1 hc1 ho2 hd2 hg2 hc2 ht hs ha hx hy hsl hb h1 kk
theorem z_K {o1 o2 : Oper} {d1 d2 t t' e : Nat} {x y : Operand} {v : Value} {i : Int} {xs : List Int} {w0 : World} {c1 c2 : Bool} (ho : o1.op = .indexAddr t x y := by exact rfl) (hd1 : o1.dst = some d1 := by exact rfl) (hg1 : gdB all ρ o1.guard = some c1 := by exact rfl) (hc1 : c1 = true := by exact rfl) (ho2 : o2.op = .load t' (.tmp d1) := by exact rfl) (hd2 : o2.dst = some d2 := by exact rfl) (hg2 : ∀ p, gdB all ((d1, .pointer p) :: ρ) o2.guard = some c2 := by exact fun _ => rfl) (hc2 : c2 = true := by exact rfl) (ht : tyD P t = some (.slice e) := by exact rfl) (hs : tyS P e = some 1 := by exact rfl) (ha : tyAgg P t' = some false := by exact rfl) (hx : ev ρ x = some v := by exact rfl) (hy : ev ρ y = some (.int .i64 i) := by exact rfl) (hsl : SlI w0 v xs := by first | assumption | exact OI.sl (by assumption)) (hb : Below w0.heap.size w0 w := by first | assumption | exact Below.refl _ _) (h0 : 0 ≤ i := by omega) (h1 : i < xs.length := by omega) (kk : ∀ p, Ops md P n ds all k Φ l ((d2, Value.int .i64 (xs.getD i.toNat 0)) :: (d1, p) :: ρ) w) : Ops md P n ds all k Φ (o1 :: o2 :: l) ρ w := Ops.rdB ho hd1 hg1 hc1 ho2 hd2 hg2 hc2 ht hs ha hx hy hsl hb h0 h1 kk
theorem z_L {o1 o2 : Oper} {d1 d2 t t' e : Nat} {x y : Operand} {v : Value} {i : Int} {xs : List Bool} {w0 : World} {c1 c2 : Bool} (ho : o1.op = .indexAddr t x y := by exact rfl) (hd1 : o1.dst = some d1 := by exact rfl) (hg1 : gdB all ρ o1.guard = some c1 := by exact rfl) (hc1 : c1 = true := by exact rfl) (ho2 : o2.op = .load t' (.tmp d1) := by exact rfl) (hd2 : o2.dst = some d2 := by exact rfl) (hg2 : ∀ p, gdB all ((d1, .pointer p) :: ρ) o2.guard = some c2 := by exact fun _ => rfl) (hc2 : c2 = true := by exact rfl) (ht : tyD P t = some (.slice e) := by exact rfl) (hs : tyS P e = some 1 := by exact rfl) (ha : tyAgg P t' = some false := by exact rfl) (hx : ev ρ x = some v := by exact rfl) (hy : ev ρ y = some (.int .i64 i) := by exact rfl) (hsl : SlB w0 v xs := by first | assumption | exact OI.sl (by assumption)) (hb : Below w0.heap.size w0 w := by first | assumption | exact Below.refl _ _) (h0 : 0 ≤ i := by omega) (h1 : i < xs.length := by omega) (kk : ∀ p, Ops md P n ds all k Φ l ((d2, Value.bool (xs.getD i.toNat false)) :: (d1, p) :: ρ) w) : Ops md P n ds all k Φ (o1 :: o2 :: l) ρ w := Ops.rdB ho hd1 hg1 hc1 ho2 hd2 hg2 hc2 ht hs ha hx hy hsl hb h0 h1 kk
theorem z_T {o : Oper} {d : Nat} {v : Value} {c x y : Operand} {b c1 : Bool} (hd : o.dst = some d := by exact rfl) (hg : gdB all ρ o.guard = some c1 := by exact rfl) (hc1 : c1 = true := by exact rfl) (ho : o.op = .pick c x y := by exact rfl) (hc : ev ρ c = some (.bool b) := by exact rfl) (hb : b = true := by first | rfl | assumption | (simp only [bnf] <;> omega) | fail) (hx : ev ρ x = some v := by exact rfl) (kk : Ops md P n ds all k Φ l ((d, v) :: ρ) w) : Ops md P n ds all k Φ (o :: l) ρ w := Ops.evG hd hg hc1 (EV.pickT ho hc hb hx) kk
theorem z_F {o : Oper} {d : Nat} {v : Value} {c x y : Operand} {b c1 : Bool} (hd : o.dst = some d := by exact rfl) (hg : gdB all ρ o.guard = some c1 := by exact rfl) (hc1 : c1 = true := by exact rfl) (ho : o.op = .pick c x y := by exact rfl) (hc : ev ρ c = some (.bool b) := by exact rfl) (hb : b = false := by first | rfl | assumption | (simp only [bnf] <;> omega) | fail) (hx : ev ρ y = some v := by exact rfl) (kk : Ops md P n ds all k Φ l ((d, v) :: ρ) w) : Ops md P n ds all k Φ (o :: l) ρ w := Ops.evG hd hg hc1 (EV.pickF ho hc hb hx) kk
theorem x_p {i d : Nat} {o : Oper} {c : Bool} {v : Value} (ho : all[i]? = some o := by exact rfl) (hd : o.dst = some d := by exact rfl) (hg : gdB all ρ o.guard = some c := by exact rfl) (hgc : c = true := by exact rfl) (hv : pureV ρ o.op = some v := by exact rfl) (kk : OrdA P n ds all k Φ s F π (L.set i true) ((d, v) :: ρ)) : OrdA P n ds all k Φ s F ((i, 1) :: π) L ρ := OrdA.pure ho hd hg hgc (fun _ => EV.pu hv) kk
theorem x_a {i d : Nat} {o : Oper} {c : Bool} {x : Int} (ho : all[i]? = some o := by exact rfl) (hd : o.dst = some d := by exact rfl) (hg : gdB all ρ o.guard = some c := by exact rfl) (hgc : c = true := by exact rfl) (hv : arV ρ o.op = some x := by exact rfl) (hb : -9223372036854775808 ≤ x ∧ x ≤ 9223372036854775807 := by omega) (kk : OrdA P n ds all k Φ s F π (L.set i true) ((d, (.int .i64 x)) :: ρ)) : OrdA P n ds all k Φ s F ((i, 1) :: π) L ρ := OrdA.pure ho hd hg hgc (fun _ => EV.ar hv hb) kk
theorem x_l {i d : Nat} {o : Oper} {c : Bool} {t e m c2 : Nat} {x : Operand} {A : Option Addr} (ho : all[i]? = some o := by exact rfl) (hd : o.dst = some d := by exact rfl) (hg : gdB all ρ o.guard = some c := by exact rfl) (hgc : c = true := by exact rfl) (h1 : o.op = .call { callee := .builtin .len, args := #[x], argTypes := #[t] } := by exact rfl) (h2 : tyD P t = some (.slice e) := by exact rfl) (h3 : ev ρ x = some (.slice A m c2) := by exact rfl) (kk : OrdA P n ds all k Φ s F π (L.set i true) ((d, (.int .i64 m)) :: ρ)) : OrdA P n ds all k Φ s F ((i, 1) :: π) L ρ := OrdA.pure ho hd hg hgc (fun _ => EV.len h1 h2 h3) kk
theorem x_M {i d : Nat} {o : Oper} {c : Bool} {x y : Operand} {ts : Array TypeId} {a b : Int} (ho : all[i]? = some o := by exact rfl) (hd : o.dst = some d := by exact rfl) (hg : gdB all ρ o.guard = some c := by exact rfl) (hgc : c = true := by exact rfl) (h1 : o.op = .call { callee := .builtin .max, args := #[x, y], argTypes := ts } := by exact rfl) (h2 : ev ρ x = some (.int .i64 a) := by exact rfl) (h3 : ev ρ y = some (.int .i64 b) := by exact rfl) (kk : OrdA P n ds all k Φ s F π (L.set i true) ((d, (.int .i64 (Max.max a b))) :: ρ)) : OrdA P n ds all k Φ s F ((i, 1) :: π) L ρ := OrdA.pure ho hd hg hgc (fun _ => EV.max h1 h2 h3) kk
theorem x_m {i d : Nat} {o : Oper} {c : Bool} {x y : Operand} {ts : Array TypeId} {a b : Int} (ho : all[i]? = some o := by exact rfl) (hd : o.dst = some d := by exact rfl) (hg : gdB all ρ o.guard = some c := by exact rfl) (hgc : c = true := by exact rfl) (h1 : o.op = .call { callee := .builtin .min, args := #[x, y], argTypes := ts } := by exact rfl) (h2 : ev ρ x = some (.int .i64 a) := by exact rfl) (h3 : ev ρ y = some (.int .i64 b) := by exact rfl) (kk : OrdA P n ds all k Φ s F π (L.set i true) ((d, (.int .i64 (Min.min a b))) :: ρ)) : OrdA P n ds all k Φ s F ((i, 1) :: π) L ρ := OrdA.pure ho hd hg hgc (fun _ => EV.min h1 h2 h3) kk
theorem x_e {i d : Nat} {o : Oper} {c : Bool} {t t' : Nat} {x y : Operand} {a b : Bool} (ho : all[i]? = some o := by exact rfl) (hd : o.dst = some d := by exact rfl) (hg : gdB all ρ o.guard = some c := by exact rfl) (hgc : c = true := by exact rfl) (h1 : o.op = .binOp .eql t x y t' := by exact rfl) (h2 : tyD P t = some .bool := by exact rfl) (h3 : ev ρ x = some (.bool a) := by exact rfl) (h4 : ev ρ y = some (.bool b) := by exact rfl) (kk : OrdA P n ds all k Φ s F π (L.set i true) ((d, (.bool (a == b))) :: ρ)) : OrdA P n ds all k Φ s F ((i, 1) :: π) L ρ := OrdA.pure ho hd hg hgc (fun _ => EV.eqB h1 h2 h3 h4) kk
theorem x_E {i d : Nat} {o : Oper} {c : Bool} {t t' : Nat} {x y : Operand} {a b : Bool} (ho : all[i]? = some o := by exact rfl) (hd : o.dst = some d := by exact rfl) (hg : gdB all ρ o.guard = some c := by exact rfl) (hgc : c = true := by exact rfl) (h1 : o.op = .binOp .neq t x y t' := by exact rfl) (h2 : tyD P t = some .bool := by exact rfl) (h3 : ev ρ x = some (.bool a) := by exact rfl) (h4 : ev ρ y = some (.bool b) := by exact rfl) (kk : OrdA P n ds all k Φ s F π (L.set i true) ((d, (.bool (!(a == b)))) :: ρ)) : OrdA P n ds all k Φ s F ((i, 1) :: π) L ρ := OrdA.pure ho hd hg hgc (fun _ => EV.neB h1 h2 h3 h4) kk
theorem x_T {i d : Nat} {o : Oper} {c : Bool} {c2 x y : Operand} {b : Bool} {v : Value} (ho : all[i]? = some o := by exact rfl) (hd : o.dst = some d := by exact rfl) (hg : gdB all ρ o.guard = some c := by exact rfl) (hgc : c = true := by exact rfl) (h1 : o.op = .pick c2 x y := by exact rfl) (h2 : ev ρ c2 = some (.bool b) := by exact rfl) (h3 : b = true := by first | rfl | assumption | (simp only [bnf] <;> omega) | fail) (h4 : ev ρ x = some v := by exact rfl) (kk : OrdA P n ds all k Φ s F π (L.set i true) ((d, v) :: ρ)) : OrdA P n ds all k Φ s F ((i, 1) :: π) L ρ := OrdA.pure ho hd hg hgc (fun _ => EV.pickT h1 h2 h3 h4) kk
theorem x_F {i d : Nat} {o : Oper} {c : Bool} {c2 x y : Operand} {b : Bool} {v : Value} (ho : all[i]? = some o := by exact rfl) (hd : o.dst = some d := by exact rfl) (hg : gdB all ρ o.guard = some c := by exact rfl) (hgc : c = true := by exact rfl) (h1 : o.op = .pick c2 x y := by exact rfl) (h2 : ev ρ c2 = some (.bool b) := by exact rfl) (h3 : b = false := by first | rfl | assumption | (simp only [bnf] <;> omega) | fail) (h4 : ev ρ y = some v := by exact rfl) (kk : OrdA P n ds all k Φ s F π (L.set i true) ((d, v) :: ρ)) : OrdA P n ds all k Φ s F ((i, 1) :: π) L ρ := OrdA.pure ho hd hg hgc (fun _ => EV.pickF h1 h2 h3 h4) kk
theorem x_n {i d m : Nat} {o : Oper} {c : Bool} (ho : all[i]? = some o := by exact rfl) (hd : o.dst = some d := by exact rfl) (hg : gdB all ρ o.guard = some c := by exact rfl) (hgc : c = false := by exact rfl) (hm : m < 2 := by decide) (kk : OrdA P n ds all k Φ s F π (L.set i true) ((d, undef) :: ρ)) : OrdA P n ds all k Φ s F ((i, m + 1) :: π) L ρ := OrdA.no ho hd hg hgc hm kk
theorem x_t {i m j g : Nat} {want b : Bool} {o : Oper} (ho : all[i]? = some o := by exact rfl) (hg : o.guard = some (j, want) := by exact rfl) (hj : (all[j]?).bind (·.dst) = some g := by exact rfl) (hv : VW.look ρ g = some (.bool b) := by exact rfl) (hb : b = true := by first | assumption | (simp only [bnf]; omega) | (simp only [*, bnf]; done) | fail) (kk : OrdA P n ds all k Φ s F ((i, m) :: π) L ((g, .bool true) :: ρ)) : OrdA P n ds all k Φ s F ((i, m) :: π) L ρ := OrdA.lit ho hg hj hv hb kk
theorem x_f {i m j g : Nat} {want b : Bool} {o : Oper} (ho : all[i]? = some o := by exact rfl) (hg : o.guard = some (j, want) := by exact rfl) (hj : (all[j]?).bind (·.dst) = some g := by exact rfl) (hv : VW.look ρ g = some (.bool b) := by exact rfl) (hb : b = false := by first | assumption | (simp only [bnf]; omega) | (simp only [*, bnf]; done) | fail) (kk : OrdA P n ds all k Φ s F ((i, m) :: π) L ((g, .bool false) :: ρ)) : OrdA P n ds all k Φ s F ((i, m) :: π) L ρ := OrdA.lit ho hg hj hv hb kk
theorem x_I {i1 i2 d1 d2 t t' e : Nat} {o1 o2 : Oper} {x y : Operand} {v : Value} {i : Nat} {xs : List Int} {w0 : World} {c1 c2 : Bool} (h1 : all[i1]? = some o1 := by exact rfl) (ho : o1.op = .indexAddr t x y := by exact rfl) (hd1 : o1.dst = some d1 := by exact rfl) (hg1 : gdB all ρ o1.guard = some c1 := by exact rfl) (hc1 : c1 = true := by exact rfl) (h2 : all[i2]? = some o2 := by exact rfl) (ho2 : o2.op = .load t' (.tmp d1) := by exact rfl) (hd2 : o2.dst = some d2 := by exact rfl) (hg2 : ∀ p, gdB all ((d1, .pointer p) :: ρ) o2.guard = some c2 := by exact fun _ => rfl) (hc2 : c2 = true := by exact rfl) (ht : tyD P t = some (.slice e) := by exact rfl) (hs : tyS P e = some 1 := by exact rfl) (ha : tyAgg P t' = some false := by exact rfl) (hx : ev ρ x = some v := by exact rfl) (hy : ev ρ y = some (.int .i64 (i : Int)) := by exact rfl) (hsl : SlI w0 v xs := by first | assumption | exact OI.sl (by assumption)) (hF : ∀ w, F w → Below w0.heap.size w0 w := by first | exact fun _ h => h | (intro _ h; exact Below.via (by assumption) h)) (hi : i < xs.length := by omega) (kk : ∀ p, OrdA P n ds all k Φ s F π ((L.set i1 true).set i2 true) ((d2, Value.int .i64 (xs.getD i 0)) :: (d1, p) :: ρ)) : OrdA P n ds all k Φ s F ((i1, 1) :: (i2, 2) :: π) L ρ := OrdA.rdSn h1 ho hd1 hg1 hc1 h2 ho2 hd2 hg2 hc2 ht hs ha hx hy hsl hF hi kk
theorem x_J {i1 i2 d1 d2 t t' e : Nat} {o1 o2 : Oper} {x y : Operand} {v : Value} {i : Nat} {xs : List Bool} {w0 : World} {c1 c2 : Bool} (h1 : all[i1]? = some o1 := by exact rfl) (ho : o1.op = .indexAddr t x y := by exact rfl) (hd1 : o1.dst = some d1 := by exact rfl) (hg1 : gdB all ρ o1.guard = some c1 := by exact rfl) (hc1 : c1 = true := by exact rfl) (h2 : all[i2]? = some o2 := by exact rfl) (ho2 : o2.op = .load t' (.tmp d1) := by exact rfl) (hd2 : o2.dst = some d2 := by exact rfl) (hg2 : ∀ p, gdB all ((d1, .pointer p) :: ρ) o2.guard = some c2 := by exact fun _ => rfl) (hc2 : c2 = true := by exact rfl) (ht : tyD P t = some (.slice e) := by exact rfl) (hs : tyS P e = some 1 := by exact rfl) (ha : tyAgg P t' = some false := by exact rfl) (hx : ev ρ x = some v := by exact rfl) (hy : ev ρ y = some (.int .i64 (i : Int)) := by exact rfl) (hsl : SlB w0 v xs := by first | assumption | exact OI.sl (by assumption)) (hF : ∀ w, F w → Below w0.heap.size w0 w := by first | exact fun _ h => h | (intro _ h; exact Below.via (by assumption) h)) (hi : i < xs.length := by omega) (kk : ∀ p, OrdA P n ds all k Φ s F π ((L.set i1 true).set i2 true) ((d2, Value.bool (xs.getD i false)) :: (d1, p) :: ρ)) : OrdA P n ds all k Φ s F ((i1, 1) :: (i2, 2) :: π) L ρ := OrdA.rdSn h1 ho hd1 hg1 hc1 h2 ho2 hd2 hg2 hc2 ht hs ha hx hy hsl hF hi kk
theorem x_K {i1 i2 d1 d2 t t' e : Nat} {o1 o2 : Oper} {x y : Operand} {v : Value} {i : Int} {xs : List Int} {w0 : World} {c1 c2 : Bool} (h1 : all[i1]? = some o1 := by exact rfl) (ho : o1.op = .indexAddr t x y := by exact rfl) (hd1 : o1.dst = some d1 := by exact rfl) (hg1 : gdB all ρ o1.guard = some c1 := by exact rfl) (hc1 : c1 = true := by exact rfl) (h2 : all[i2]? = some o2 := by exact rfl) (ho2 : o2.op = .load t' (.tmp d1) := by exact rfl) (hd2 : o2.dst = some d2 := by exact rfl) (hg2 : ∀ p, gdB all ((d1, .pointer p) :: ρ) o2.guard = some c2 := by exact fun _ => rfl) (hc2 : c2 = true := by exact rfl) (ht : tyD P t = some (.slice e) := by exact rfl) (hs : tyS P e = some 1 := by exact rfl) (ha : tyAgg P t' = some false := by exact rfl) (hx : ev ρ x = some v := by exact rfl) (hy : ev ρ y = some (.int .i64 i) := by exact rfl) (hsl : SlI w0 v xs := by first | assumption | exact OI.sl (by assumption)) (hF : ∀ w, F w → Below w0.heap.size w0 w := by first | exact fun _ h => h | (intro _ h; exact Below.via (by assumption) h)) (h0 : 0 ≤ i := by omega) (hi : i < xs.length := by omega) (kk : ∀ p, OrdA P n ds all k Φ s F π ((L.set i1 true).set i2 true) ((d2, Value.int .i64 (xs.getD i.toNat 0)) :: (d1, p) :: ρ)) : OrdA P n ds all k Φ s F ((i1, 1) :: (i2, 2) :: π) L ρ := OrdA.rdS h1 ho hd1 hg1 hc1 h2 ho2 hd2 hg2 hc2 ht hs ha hx hy hsl hF h0 hi kk
theorem x_L {i1 i2 d1 d2 t t' e : Nat} {o1 o2 : Oper} {x y : Operand} {v : Value} {i : Int} {xs : List Bool} {w0 : World} {c1 c2 : Bool} (h1 : all[i1]? = some o1 := by exact rfl) (ho : o1.op = .indexAddr t x y := by exact rfl) (hd1 : o1.dst = some d1 := by exact rfl) (hg1 : gdB all ρ o1.guard = some c1 := by exact rfl) (hc1 : c1 = true := by exact rfl) (h2 : all[i2]? = some o2 := by exact rfl) (ho2 : o2.op = .load t' (.tmp d1) := by exact rfl) (hd2 : o2.dst = some d2 := by exact rfl) (hg2 : ∀ p, gdB all ((d1, .pointer p) :: ρ) o2.guard = some c2 := by exact fun _ => rfl) (hc2 : c2 = true := by exact rfl) (ht : tyD P t = some (.slice e) := by exact rfl) (hs : tyS P e = some 1 := by exact rfl) (ha : tyAgg P t' = some false := by exact rfl) (hx : ev ρ x = some v := by exact rfl) (hy : ev ρ y = some (.int .i64 i) := by exact rfl) (hsl : SlB w0 v xs := by first | assumption | exact OI.sl (by assumption)) (hF : ∀ w, F w → Below w0.heap.size w0 w := by first | exact fun _ h => h | (intro _ h; exact Below.via (by assumption) h)) (h0 : 0 ≤ i := by omega) (hi : i < xs.length := by omega) (kk : ∀ p, OrdA P n ds all k Φ s F π ((L.set i1 true).set i2 true) ((d2, Value.bool (xs.getD i.toNat false)) :: (d1, p) :: ρ)) : OrdA P n ds all k Φ s F ((i1, 1) :: (i2, 2) :: π) L ρ := OrdA.rdS h1 ho hd1 hg1 hc1 h2 ho2 hd2 hg2 hc2 ht hs ha hx hy hsl hF h0 hi kk
theorem y_p {i d : Nat} {o : Oper} {c : Bool} {v : Value} (ho : all[i]? = some o := by exact rfl) (hd : o.dst = some d := by exact rfl) (hg : gdB all ρ o.guard = some c := by exact rfl) (hgc : c = true := by exact rfl) (hΦ : ∀ c ρ w, (Φ (.panic c) ρ w → Φ (.panic c) [] w) := by exact fun _ _ _ h => h) (hv : pureV ρ o.op = some v := by exact rfl) (kk : Ord P n ds all k Φ s F π (L.set i true) ((d, v) :: ρ) w) : Ord P n ds all k Φ s F ((i, 1) :: π) L ρ w := Ord.pure ho hd hg hgc hΦ (fun _ => EV.pu hv) kk
theorem y_a {i d : Nat} {o : Oper} {c : Bool} {x : Int} (ho : all[i]? = some o := by exact rfl) (hd : o.dst = some d := by exact rfl) (hg : gdB all ρ o.guard = some c := by exact rfl) (hgc : c = true := by exact rfl) (hΦ : ∀ c ρ w, (Φ (.panic c) ρ w → Φ (.panic c) [] w) := by exact fun _ _ _ h => h) (hv : arV ρ o.op = some x := by exact rfl) (hb : -9223372036854775808 ≤ x ∧ x ≤ 9223372036854775807 := by omega) (kk : Ord P n ds all k Φ s F π (L.set i true) ((d, (.int .i64 x)) :: ρ) w) : Ord P n ds all k Φ s F ((i, 1) :: π) L ρ w := Ord.pure ho hd hg hgc hΦ (fun _ => EV.ar hv hb) kk
theorem y_l {i d : Nat} {o : Oper} {c : Bool} {t e m c2 : Nat} {x : Operand} {A : Option Addr} (ho : all[i]? = some o := by exact rfl) (hd : o.dst = some d := by exact rfl) (hg : gdB all ρ o.guard = some c := by exact rfl) (hgc : c = true := by exact rfl) (hΦ : ∀ c ρ w, (Φ (.panic c) ρ w → Φ (.panic c) [] w) := by exact fun _ _ _ h => h) (h1 : o.op = .call { callee := .builtin .len, args := #[x], argTypes := #[t] } := by exact rfl) (h2 : tyD P t = some (.slice e) := by exact rfl) (h3 : ev ρ x = some (.slice A m c2) := by exact rfl) (kk : Ord P n ds all k Φ s F π (L.set i true) ((d, (.int .i64 m)) :: ρ) w) : Ord P n ds all k Φ s F ((i, 1) :: π) L ρ w := Ord.pure ho hd hg hgc hΦ (fun _ => EV.len h1 h2 h3) kk
theorem y_M {i d : Nat} {o : Oper} {c : Bool} {x y : Operand} {ts : Array TypeId} {a b : Int} (ho : all[i]? = some o := by exact rfl) (hd : o.dst = some d := by exact rfl) (hg : gdB all ρ o.guard = some c := by exact rfl) (hgc : c = true := by exact rfl) (hΦ : ∀ c ρ w, (Φ (.panic c) ρ w → Φ (.panic c) [] w) := by exact fun _ _ _ h => h) (h1 : o.op = .call { callee := .builtin .max, args := #[x, y], argTypes := ts } := by exact rfl) (h2 : ev ρ x = some (.int .i64 a) := by exact rfl) (h3 : ev ρ y = some (.int .i64 b) := by exact rfl) (kk : Ord P n ds all k Φ s F π (L.set i true) ((d, (.int .i64 (Max.max a b))) :: ρ) w) : Ord P n ds all k Φ s F ((i, 1) :: π) L ρ w := Ord.pure ho hd hg hgc hΦ (fun _ => EV.max h1 h2 h3) kk
theorem y_m {i d : Nat} {o : Oper} {c : Bool} {x y : Operand} {ts : Array TypeId} {a b : Int} (ho : all[i]? = some o := by exact rfl) (hd : o.dst = some d := by exact rfl) (hg : gdB all ρ o.guard = some c := by exact rfl) (hgc : c = true := by exact rfl) (hΦ : ∀ c ρ w, (Φ (.panic c) ρ w → Φ (.panic c) [] w) := by exact fun _ _ _ h => h) (h1 : o.op = .call { callee := .builtin .min, args := #[x, y], argTypes := ts } := by exact rfl) (h2 : ev ρ x = some (.int .i64 a) := by exact rfl) (h3 : ev ρ y = some (.int .i64 b) := by exact rfl) (kk : Ord P n ds all k Φ s F π (L.set i true) ((d, (.int .i64 (Min.min a b))) :: ρ) w) : Ord P n ds all k Φ s F ((i, 1) :: π) L ρ w := Ord.pure ho hd hg hgc hΦ (fun _ => EV.min h1 h2 h3) kk
theorem y_e {i d : Nat} {o : Oper} {c : Bool} {t t' : Nat} {x y : Operand} {a b : Bool} (ho : all[i]? = some o := by exact rfl) (hd : o.dst = some d := by exact rfl) (hg : gdB all ρ o.guard = some c := by exact rfl) (hgc : c = true := by exact rfl) (hΦ : ∀ c ρ w, (Φ (.panic c) ρ w → Φ (.panic c) [] w) := by exact fun _ _ _ h => h) (h1 : o.op = .binOp .eql t x y t' := by exact rfl) (h2 : tyD P t = some .bool := by exact rfl) (h3 : ev ρ x = some (.bool a) := by exact rfl) (h4 : ev ρ y = some (.bool b) := by exact rfl) (kk : Ord P n ds all k Φ s F π (L.set i true) ((d, (.bool (a == b))) :: ρ) w) : Ord P n ds all k Φ s F ((i, 1) :: π) L ρ w := Ord.pure ho hd hg hgc hΦ (fun _ => EV.eqB h1 h2 h3 h4) kk
theorem y_E {i d : Nat} {o : Oper} {c : Bool} {t t' : Nat} {x y : Operand} {a b : Bool} (ho : all[i]? = some o := by exact rfl) (hd : o.dst = some d := by exact rfl) (hg : gdB all ρ o.guard = some c := by exact rfl) (hgc : c = true := by exact rfl) (hΦ : ∀ c ρ w, (Φ (.panic c) ρ w → Φ (.panic c) [] w) := by exact fun _ _ _ h => h) (h1 : o.op = .binOp .neq t x y t' := by exact rfl) (h2 : tyD P t = some .bool := by exact rfl) (h3 : ev ρ x = some (.bool a) := by exact rfl) (h4 : ev ρ y = some (.bool b) := by exact rfl) (kk : Ord P n ds all k Φ s F π (L.set i true) ((d, (.bool (!(a == b)))) :: ρ) w) : Ord P n ds all k Φ s F ((i, 1) :: π) L ρ w := Ord.pure ho hd hg hgc hΦ (fun _ => EV.neB h1 h2 h3 h4) kk
theorem y_T {i d : Nat} {o : Oper} {c : Bool} {c2 x y : Operand} {b : Bool} {v : Value} (ho : all[i]? = some o := by exact rfl) (hd : o.dst = some d := by exact rfl) (hg : gdB all ρ o.guard = some c := by exact rfl) (hgc : c = true := by exact rfl) (hΦ : ∀ c ρ w, (Φ (.panic c) ρ w → Φ (.panic c) [] w) := by exact fun _ _ _ h => h) (h1 : o.op = .pick c2 x y := by exact rfl) (h2 : ev ρ c2 = some (.bool b) := by exact rfl) (h3 : b = true := by first | rfl | assumption | (simp only [bnf] <;> omega) | fail) (h4 : ev ρ x = some v := by exact rfl) (kk : Ord P n ds all k Φ s F π (L.set i true) ((d, v) :: ρ) w) : Ord P n ds all k Φ s F ((i, 1) :: π) L ρ w := Ord.pure ho hd hg hgc hΦ (fun _ => EV.pickT h1 h2 h3 h4) kk
theorem y_F {i d : Nat} {o : Oper} {c : Bool} {c2 x y : Operand} {b : Bool} {v : Value} (ho : all[i]? = some o := by exact rfl) (hd : o.dst = some d := by exact rfl) (hg : gdB all ρ o.guard = some c := by exact rfl) (hgc : c = true := by exact rfl) (hΦ : ∀ c ρ w, (Φ (.panic c) ρ w → Φ (.panic c) [] w) := by exact fun _ _ _ h => h) (h1 : o.op = .pick c2 x y := by exact rfl) (h2 : ev ρ c2 = some (.bool b) := by exact rfl) (h3 : b = false := by first | rfl | assumption | (simp only [bnf] <;> omega) | fail) (h4 : ev ρ y = some v := by exact rfl) (kk : Ord P n ds all k Φ s F π (L.set i true) ((d, v) :: ρ) w) : Ord P n ds all k Φ s F ((i, 1) :: π) L ρ w := Ord.pure ho hd hg hgc hΦ (fun _ => EV.pickF h1 h2 h3 h4) kk
theorem y_n {i d m : Nat} {o : Oper} {c : Bool} (ho : all[i]? = some o := by exact rfl) (hd : o.dst = some d := by exact rfl) (hg : gdB all ρ o.guard = some c := by exact rfl) (hgc : c = false := by exact rfl) (hΦ : ∀ c ρ w, (Φ (.panic c) ρ w → Φ (.panic c) [] w) := by exact fun _ _ _ h => h) (hm : m < 2 := by decide) (kk : Ord P n ds all k Φ s F π (L.set i true) ((d, undef) :: ρ) w) : Ord P n ds all k Φ s F ((i, m + 1) :: π) L ρ w := Ord.no ho hd hg hgc hΦ hm kk
theorem y_t {i m j g : Nat} {want b : Bool} {o : Oper} (ho : all[i]? = some o := by exact rfl) (hg : o.guard = some (j, want) := by exact rfl) (hj : (all[j]?).bind (·.dst) = some g := by exact rfl) (hv : VW.look ρ g = some (.bool b) := by exact rfl) (hb : b = true := by first | assumption | (simp only [bnf]; omega) | (simp only [*, bnf]; done) | fail) (kk : Ord P n ds all k Φ s F ((i, m) :: π) L ((g, .bool true) :: ρ) w) : Ord P n ds all k Φ s F ((i, m) :: π) L ρ w := Ord.lit ho hg hj hv hb kk
theorem y_f {i m j g : Nat} {want b : Bool} {o : Oper} (ho : all[i]? = some o := by exact rfl) (hg : o.guard = some (j, want) := by exact rfl) (hj : (all[j]?).bind (·.dst) = some g := by exact rfl) (hv : VW.look ρ g = some (.bool b) := by exact rfl) (hb : b = false := by first | assumption | (simp only [bnf]; omega) | (simp only [*, bnf]; done) | fail) (kk : Ord P n ds all k Φ s F ((i, m) :: π) L ((g, .bool false) :: ρ) w) : Ord P n ds all k Φ s F ((i, m) :: π) L ρ w := Ord.lit ho hg hj hv hb kk
theorem y_I {i1 i2 d1 d2 t t' e : Nat} {o1 o2 : Oper} {x y : Operand} {v : Value} {i : Nat} {xs : List Int} {w0 : World} {c1 c2 : Bool} (h1 : all[i1]? = some o1 := by exact rfl) (ho : o1.op = .indexAddr t x y := by exact rfl) (hd1 : o1.dst = some d1 := by exact rfl) (hg1 : gdB all ρ o1.guard = some c1 := by exact rfl) (hc1 : c1 = true := by exact rfl) (h2 : all[i2]? = some o2 := by exact rfl) (ho2 : o2.op = .load t' (.tmp d1) := by exact rfl) (hd2 : o2.dst = some d2 := by exact rfl) (hg2 : ∀ p, gdB all ((d1, .pointer p) :: ρ) o2.guard = some c2 := by exact fun _ => rfl) (hc2 : c2 = true := by exact rfl) (ht : tyD P t = some (.slice e) := by exact rfl) (hs : tyS P e = some 1 := by exact rfl) (ha : tyAgg P t' = some false := by exact rfl) (hx : ev ρ x = some v := by exact rfl) (hy : ev ρ y = some (.int .i64 (i : Int)) := by exact rfl) (hsl : SlI w0 v xs := by first | assumption | exact OI.sl (by assumption)) (hF : ∀ w, F w → Below w0.heap.size w0 w := by first | exact fun _ h => h | (intro _ h; exact Below.via (by assumption) h)) (hi : i < xs.length := by omega) (hΦ : ∀ c ρ w, (Φ (.panic c) ρ w → Φ (.panic c) [] w) := by exact fun _ _ _ h => h) (kk : ∀ p, Ord P n ds all k Φ s F π ((L.set i1 true).set i2 true) ((d2, Value.int .i64 (xs.getD i 0)) :: (d1, p) :: ρ) w) : Ord P n ds all k Φ s F ((i1, 1) :: (i2, 2) :: π) L ρ w := Ord.rdSn h1 ho hd1 hg1 hc1 h2 ho2 hd2 hg2 hc2 ht hs ha hx hy hsl hF hi hΦ kk
theorem y_J {i1 i2 d1 d2 t t' e : Nat} {o1 o2 : Oper} {x y : Operand} {v : Value} {i : Nat} {xs : List Bool} {w0 : World} {c1 c2 : Bool} (h1 : all[i1]? = some o1 := by exact rfl) (ho : o1.op = .indexAddr t x y := by exact rfl) (hd1 : o1.dst = some d1 := by exact rfl) (hg1 : gdB all ρ o1.guard = some c1 := by exact rfl) (hc1 : c1 = true := by exact rfl) (h2 : all[i2]? = some o2 := by exact rfl) (ho2 : o2.op = .load t' (.tmp d1) := by exact rfl) (hd2 : o2.dst = some d2 := by exact rfl) (hg2 : ∀ p, gdB all ((d1, .pointer p) :: ρ) o2.guard = some c2 := by exact fun _ => rfl) (hc2 : c2 = true := by exact rfl) (ht : tyD P t = some (.slice e) := by exact rfl) (hs : tyS P e = some 1 := by exact rfl) (ha : tyAgg P t' = some false := by exact rfl) (hx : ev ρ x = some v := by exact rfl) (hy : ev ρ y = some (.int .i64 (i : Int)) := by exact rfl) (hsl : SlB w0 v xs := by first | assumption | exact OI.sl (by assumption)) (hF : ∀ w, F w → Below w0.heap.size w0 w := by first | exact fun _ h => h | (intro _ h; exact Below.via (by assumption) h)) (hi : i < xs.length := by omega) (hΦ : ∀ c ρ w, (Φ (.panic c) ρ w → Φ (.panic c) [] w) := by exact fun _ _ _ h => h) (kk : ∀ p, Ord P n ds all k Φ s F π ((L.set i1 true).set i2 true) ((d2, Value.bool (xs.getD i false)) :: (d1, p) :: ρ) w) : Ord P n ds all k Φ s F ((i1, 1) :: (i2, 2) :: π) L ρ w := Ord.rdSn h1 ho hd1 hg1 hc1 h2 ho2 hd2 hg2 hc2 ht hs ha hx hy hsl hF hi hΦ kk
theorem y_K {i1 i2 d1 d2 t t' e : Nat} {o1 o2 : Oper} {x y : Operand} {v : Value} {i : Int} {xs : List Int} {w0 : World} {c1 c2 : Bool} (h1 : all[i1]? = some o1 := by exact rfl) (ho : o1.op = .indexAddr t x y := by exact rfl) (hd1 : o1.dst = some d1 := by exact rfl) (hg1 : gdB all ρ o1.guard = some c1 := by exact rfl) (hc1 : c1 = true := by exact rfl) (h2 : all[i2]? = some o2 := by exact rfl) (ho2 : o2.op = .load t' (.tmp d1) := by exact rfl) (hd2 : o2.dst = some d2 := by exact rfl) (hg2 : ∀ p, gdB all ((d1, .pointer p) :: ρ) o2.guard = some c2 := by exact fun _ => rfl) (hc2 : c2 = true := by exact rfl) (ht : tyD P t = some (.slice e) := by exact rfl) (hs : tyS P e = some 1 := by exact rfl) (ha : tyAgg P t' = some false := by exact rfl) (hx : ev ρ x = some v := by exact rfl) (hy : ev ρ y = some (.int .i64 i) := by exact rfl) (hsl : SlI w0 v xs := by first | assumption | exact OI.sl (by assumption)) (hF : ∀ w, F w → Below w0.heap.size w0 w := by first | exact fun _ h => h | (intro _ h; exact Below.via (by assumption) h)) (h0 : 0 ≤ i := by omega) (hi : i < xs.length := by omega) (hΦ : ∀ c ρ w, (Φ (.panic c) ρ w → Φ (.panic c) [] w) := by exact fun _ _ _ h => h) (kk : ∀ p, Ord P n ds all k Φ s F π ((L.set i1 true).set i2 true) ((d2, Value.int .i64 (xs.getD i.toNat 0)) :: (d1, p) :: ρ) w) : Ord P n ds all k Φ s F ((i1, 1) :: (i2, 2) :: π) L ρ w := Ord.rdS h1 ho hd1 hg1 hc1 h2 ho2 hd2 hg2 hc2 ht hs ha hx hy hsl hF h0 hi hΦ kk
theorem y_L {i1 i2 d1 d2 t t' e : Nat} {o1 o2 : Oper} {x y : Operand} {v : Value} {i : Int} {xs : List Bool} {w0 : World} {c1 c2 : Bool} (h1 : all[i1]? = some o1 := by exact rfl) (ho : o1.op = .indexAddr t x y := by exact rfl) (hd1 : o1.dst = some d1 := by exact rfl) (hg1 : gdB all ρ o1.guard = some c1 := by exact rfl) (hc1 : c1 = true := by exact rfl) (h2 : all[i2]? = some o2 := by exact rfl) (ho2 : o2.op = .load t' (.tmp d1) := by exact rfl) (hd2 : o2.dst = some d2 := by exact rfl) (hg2 : ∀ p, gdB all ((d1, .pointer p) :: ρ) o2.guard = some c2 := by exact fun _ => rfl) (hc2 : c2 = true := by exact rfl) (ht : tyD P t = some (.slice e) := by exact rfl) (hs : tyS P e = some 1 := by exact rfl) (ha : tyAgg P t' = some false := by exact rfl) (hx : ev ρ x = some v := by exact rfl) (hy : ev ρ y = some (.int .i64 i) := by exact rfl) (hsl : SlB w0 v xs := by first | assumption | exact OI.sl (by assumption)) (hF : ∀ w, F w → Below w0.heap.size w0 w := by first | exact fun _ h => h | (intro _ h; exact Below.via (by assumption) h)) (h0 : 0 ≤ i := by omega) (hi : i < xs.length := by omega) (hΦ : ∀ c ρ w, (Φ (.panic c) ρ w → Φ (.panic c) [] w) := by exact fun _ _ _ h => h) (kk : ∀ p, Ord P n ds all k Φ s F π ((L.set i1 true).set i2 true) ((d2, Value.bool (xs.getD i.toNat false)) :: (d1, p) :: ρ) w) : Ord P n ds all k Φ s F ((i1, 1) :: (i2, 2) :: π) L ρ w := Ord.rdS h1 ho hd1 hg1 hc1 h2 ho2 hd2 hg2 hc2 ht hs ha hx hy hsl hF h0 hi hΦ kk
end
end Go.Proofs.YtcmjlmnfdncajaaGreatDoor.VW
/- Words that wrap and shift; copy into a slice of the call's own; x[k:], x[:k]. -/
namespace Go.Proofs.YtcmjlmnfdncajaaGreatDoor.VW
open Go Go.RowKit
/-- What an operation on two whole numbers gives, whatever the kind. -/
def bw : BinOp → IntKind → Int → Int → Option Int
  | .add, k, a, b => some (k.wrap (a + b))
  | .sub, k, a, b => some (k.wrap (a - b))
  | .mul, k, a, b => some (k.wrap (a * b))
  | .and, k, a, b => some (k.wrap ((BitVec.ofInt k.bits a &&& BitVec.ofInt k.bits b).toNat))
  | .or, k, a, b => some (k.wrap ((BitVec.ofInt k.bits a ||| BitVec.ofInt k.bits b).toNat))
  | _, _, _, _ => none
def bsh : BinOp → IntKind → Int → Int → Option Int
  | .shl, k, a, b => if b < 0 then none else some (k.wrap (a * 2 ^ (min b.toNat k.bits)))
  | .shr, k, a, b => if b < 0 then none else some (a.fdiv (2 ^ (min b.toNat k.bits)))
  | _, _, _, _ => none
section
variable {P : Program} [hT : Tab P] {n : Nat} {ds : List Deferred} {Φ : Post} {k : List It} {ρ : E} {w : World} {all : Array Oper} {l : List Oper} {md : Option (List Oper)} {s : Nat} {F : World → Prop} {π : List (Nat × Nat)} {L : List Bool}
omit hT in
theorem EV.bw {o : Oper} {op : BinOp} {t t' : Nat} {x y : Operand} {kd : IntKind} {a b v : Int} (ho : o.op = .binOp op t x y t') (hx : ev ρ x = some (.int kd a)) (hy : ev ρ y = some (.int kd b)) (hv : VW.bw op kd a b = some v) : EV P n ρ w o (.int kd v) := by
  intro c hr
  simp only [execOp, ho, hr.ev hx, hr.ev hy]
  cases op <;> simp [VW.bw] at hv <;> subst hv <;> simp [eqGuard, binOp, Op.intArith, Op.intBits, go_sem] <;> rfl
omit hT in
theorem EV.bsh {o : Oper} {op : BinOp} {t t' : Nat} {x y : Operand} {kd kd' : IntKind} {a b v : Int} (ho : o.op = .binOp op t x y t') (hx : ev ρ x = some (.int kd a)) (hy : ev ρ y = some (.int kd' b)) (hv : VW.bsh op kd a b = some v) : EV P n ρ w o (.int kd v) := by
  intro c hr
  simp only [execOp, ho, hr.ev hx, hr.ev hy]
  cases op <;> simp [VW.bsh] at hv <;> (obtain ⟨h1, h2⟩ := hv; subst h2; simp [eqGuard, binOp, Op.shift, go_sem, Int.not_lt.2 h1])
/-- x[:h] -/
theorem EV.slH {o : Oper} {t e sz m c : Nat} {x y : Operand} {A : Option Addr} {h : Int} (ho : o.op = .slice t x none (some y) none) (ht : tyD P t = some (.slice e)) (hs : tyS P e = some sz) (hx : ev ρ x = some (.slice A m c)) (hy : ev ρ y = some (.int .i64 h)) (h0 : 0 ≤ h) (h1 : h ≤ c) : EV P n ρ w o (.slice A h.toNat c) := by
  intro a hr
  have e0 : A.map (fun p : Addr => p.add 0) = A := by cases A <;> simp [Addr.add]
  simp [execOp, ho, hr.ev hx, hr.ev hy, Instr.sliceAt, Instr.slice, Instr.sliceBounds, Instr.sliceBound, asIntOf, run_und (td_slice (tyD_ok ht)), run_sizeOf hs, h0, h1, e0]
/-- x[k:] of a slice of the call's own -/
theorem EV.slO {o : Oper} {t e g m c q : Nat} {x y : Operand} (ho : o.op = .slice t x (some y) none none) (ht : tyD P t = some (.slice e)) (hs : tyS P e = some 1) (hx : ev ρ x = some (.slice (some ⟨g, 0, none⟩) m c)) (hy : ev ρ y = some (.int .i64 (q : Int))) (h1 : q ≤ m) (h2 : q < c) (h3 : m ≤ c) : EV P n ρ w o (.slice (some ⟨g, q, none⟩) (m - q) (c - q)) := by
  intro a hr
  have hne : ¬ c = q := by omega
  have e0 : (⟨g, 0, none⟩ : Addr).add (q * 1) = ⟨g, q, none⟩ := by rw [add_lit]; simp
  have e1 : (⟨g, 0, none⟩ : Addr).add q = ⟨g, q, none⟩ := by rw [add_lit]; simp
  simp [execOp, ho, hr.ev hx, hr.ev hy, Instr.sliceAt, Instr.slice, Instr.sliceBounds, Instr.sliceBound, asIntOf, run_und (td_slice (tyD_ok ht)), run_sizeOf hs, h1, hne, e0, e1]
/-- copy into a slice of the call's own. -/
theorem Ops.cpO {α : Type} {enc : α → Value} {z : α} {w0 : World} {o : Oper} {d t t' e g off m c dl dc : Nat} {x y : Operand} {yv : Value} {os ys : List α} (ho : o.op = .call { callee := .builtin .copy, args := #[x, y], argTypes := #[t, t'] }) (hd : o.dst = some d) (hg : o.guard = none)
    (ht : tyD P t = some (.slice e)) (hs : tyS P e = some 1) (hx : ev ρ x = some (.slice (some ⟨g, off, none⟩) dl dc)) (hy : ev ρ y = some yv) (hO : OI e enc w0 w (.slice (some ⟨g, 0, none⟩) m c) os) (hS : Sl enc z w yv ys) (hp : 0 < ys.length) (hoff : off + dl = os.length) (h1 : ∀ u, (enc u).oneCell' = true)
    (hk : ∀ w', OI e enc w0 w' (.slice (some ⟨g, 0, none⟩) m c) (os.take off ++ ys.take dl ++ os.drop (off + Min.min ys.length dl)) → Kp (fun i => i = g) w w' → w'.heap.size = w.heap.size → Ops none P n ds all k Φ l ((d, .int .i64 (Min.min ys.length dl : Nat)) :: ρ) w') : Ops none P n ds all k Φ (o :: l) ρ w := by
  obtain ⟨hyl, Ay, cy, rfl, hcell⟩ := hS
  obtain ⟨ad, rfl, hcell2⟩ := hcell hp
  have hown := hO.own
  rcases hown.2 with ⟨h2, _⟩ | ⟨g', cap, cur, h2, _, hgb, hnc, hx2, hcs, ht'⟩
  · cases h2
  · cases h2
    obtain ⟨f, hi, h3⟩ := tyS_ok hs
    have hmin : ((ys.take dl).map enc).length = Nat.min ys.length dl := by simp [Nat.min_comm]
    have hsz : (P.info? e).map (·.size) = some 1 := by rw [hi]; simp [h3]
    have hcz : cur.size = c := by simpa using hcs
    have hoc : os.length ≤ c := hnc
    have hfit : off + ((ys.take dl).map enc).length ≤ cur.size := by rw [hmin, hcz]; have : Nat.min ys.length dl ≤ dl := Nat.min_le_right _ _; omega
    have hrun := run_copy_row (P := P) w t t' o.type e g off dl dc ad ys.length cy cur e ((ys.take dl).map enc) (td_slice (tyD_ok ht)) hsz hgb hmin (fun j v hj => by
      rw [List.getElem?_map, List.getElem?_take] at hj
      split at hj
      · rw [Option.map_eq_some_iff] at hj
        obtain ⟨u, hu, rfl⟩ := hj
        have hjl : j < ys.length := (List.getElem?_eq_some_iff.1 hu).1
        rw [hcell2 j hjl]
        simp [List.getD_eq_getElem?_getD, hu]
      · simp at hj) hfit (fun v hv => by obtain ⟨u, _, rfl⟩ := List.mem_map.1 hv; exact h1 u)
    have hlen : ((ys.take dl).map enc).length = Min.min ys.length dl := hmin
    have hkp : Kp (fun i => i = g) w (w.setRow g (cur.toList.take off ++ (ys.take dl).map enc ++ cur.toList.drop (off + ((ys.take dl).map enc).length)).toArray) :=
      ⟨rfl, rfl, rfl, by simp [World.setRow], fun i hi hn => setRow_other w g i _ (by omega)⟩
    have hle : (os.take off ++ ys.take dl ++ os.drop (off + Min.min ys.length dl)).length = os.length := by simp; omega
    refine Ops.val hd hg (fun a hr => ?_) (hk _ ⟨Below.put hO.bel hkp (fun i hi => by subst hi; exact hO.ge _ rfl), ?_, hO.ge⟩ hkp (by simp [World.setRow]))
    · simp [execOp, ho, resolve, invoke, builtin, hr.ev hx, hr.ev hy, hrun, Result.andThen, goInt, Nat.min_comm]
    · refine ⟨by simp, .inr ⟨g, c, _, by rw [hle], Nat.zero_le _, setRow_heap w g cur _ e _ hgb, by rw [hle]; exact hnc, hx2, ?_, ?_⟩⟩
      · rw [List.size_toArray]; simp [hcz] at *; omega
      · rw [hle]
        have hto : cur.toList.take (os.length * 1) = os.map enc := by simpa using ht'
        rw [Nat.mul_one] at hto ⊢
        have hol : os.length ≤ cur.toList.length := by simp [hcz]; omega
        rw [hlen, List.map_append, List.map_append]
        simp only [List.map_take, List.map_drop]
        rw [← hto]
        simp only [List.take_append, List.length_append, List.length_take, List.length_map]
        have e1 : Min.min off cur.toList.length = off := by omega
        rw [e1]
        congr 1
        · congr 1
          · rw [List.take_take, List.take_take]; congr 1; omega
          · rw [List.take_of_length_le (by simp; omega)]
        · rw [List.drop_take]
          congr 1
          omega
/-- A map's literal, entry by entry. -/
theorem Ops.ins {o : Oper} {t kt et r : Nat} {x y z : Operand} {i : Int} {f : Int → Bool} (ho : o.op = .insert t x y z) (hd : o.dst = none) (hg : o.guard = none)
    (ht : tyD P t = some (.map kt et)) (hkt : tyD P kt = some (.int .i64)) (hx : ev ρ x = some (.map (some r))) (hy : ev ρ y = some (.int .i64 i)) (hz : ev ρ z = some (.bool true)) (hm : MapB w r f)
    (hk : ∀ w', MapB w' r (fun k => f k || k == i) → Kp (fun i => i = r) w w' → w'.heap.size = w.heap.size → Ops none P n ds all k Φ l ρ w') : Ops none P n ds all k Φ (o :: l) ρ w := by
  obtain ⟨w', hrun, h1, h2, h3⟩ := run_put (x := i) ht hkt hm
  refine Ops.unit hg hd (fun a hr => ?_) (hk w' h1 h2 h3)
  simp [execOp, ho, hr.ev hx, hr.ev hy, hr.ev hz, hrun]
/-- A load out of a block that was told of earlier. -/
theorem z_D {o : Oper} {d t b q t' : Nat} {x : Operand} {cs : Array Value} {v : Value} {w0 : World} (ho : o.op = .load t x := by exact rfl) (hd : o.dst = some d := by exact rfl) (hg : o.guard = none := by exact rfl)
    (ht : tyAgg P t = some false := by exact rfl) (hx : ev ρ x = some (.pointer (some ⟨b, q, none⟩)) := by exact rfl) (hb : Blk w0 b cs t' := by assumption) (hbel : Below w0.heap.size w0 w := by first | assumption | exact Below.refl _ _) (hi : nth cs.toList q = some v := by exact rfl) (kk : Ops md P n ds all k Φ l ((d, v) :: ρ) w) : Ops md P n ds all k Φ (o :: l) ρ w :=
  Ops.ldB ho hd hg ht hx (hb.kp (Kp.of_below (S := fun _ => False) hbel) (fun e => e)) hi kk
theorem MapB.below {w w' : World} {b : Nat} {f : Int → Bool} (h : MapB w b f) (k : Below w.heap.size w w') : MapB w' b f := h.kp (Kp.of_below (S := fun _ => False) k) (fun e => e)
end
end Go.Proofs.YtcmjlmnfdncajaaGreatDoor.VW
/- Within a fence: rounds of a range over a function, and functions that call yield. -/
namespace Go.Proofs.YtcmjlmnfdncajaaGreatDoor.VW
open Go Go.RowKit
def Fw : Option Nat → Fence
  | none => Fence.wide
  | some l => Fence.wide.inRound l
theorem Fw_fn (r : Option Nat) (f : FuncId) : (Fw r).fn f := by cases r <;> exact trivial
theorem Fw_dep (r : Option Nat) : (Fw r).depth = none := by cases r <;> rfl
theorem Fw_calls (r : Option Nat) {m : Nat} {P : Program} {f : FuncId} {args : Array Value} {w : World} {R : Ending → World → Prop} (h : Calls P f args w R) : CallsIn (Fw r) m P f args w R := by
  cases r with
  | none => exact callsIn_wide.2 h
  | some l => exact (callsIn_wide.2 h).inRound l
theorem Fw_rows (r : Option Nat) {m : Nat} {P : Program} {row : String} {args : Array Value} {w : World} {R : Value → World → Prop} (h : Rows P row args w R) : RowsIn (Fw r) m P row args w R := by
  cases r with
  | none => exact fun c cs _ => let ⟨v, w', r, s⟩ := h c cs; ⟨v, w', r, stepsIn_wide.2 s⟩
  | some l => exact fun c cs _ => let ⟨v, w', r, s⟩ := h c cs; ⟨v, w', r, stepsIn_wide.2 s⟩
def noDefer (ops : List Oper) : Bool := ops.all fun o => match o.op with | .defer _ => false | _ => true
theorem noDefer_at {ops : List Oper} (h : noDefer ops = true) {o : Oper} (ho : o ∈ ops) (c : Call) : o.op ≠ .defer c := by
  intro e
  have := List.all_eq_true.1 h o ho
  rw [e] at this
  cases this
theorem opIn {r : Option Nat} {m : Nat} {P : Program} {o : Oper} {a : Act} {w : World} {K K' : Act → World → Prop} {Q Q' : Exit → Act → World → Prop} (hd : ∀ c, o.op ≠ .defer c) (hK : ∀ a w, K a w → K' a w) (hp : ∀ c a w, ¬ Q (.panic c) a w) (ho : ¬ LetsOut Q)
    (h : o.wp P a w K Q) : o.wpIn (Fw r) m P a w K' Q' := by
  refine ⟨fun f _ => Fw_fn r f, ?_⟩
  rw [Oper.semAt_eq _ _ _ hd]
  unfold Oper.wp at h
  generalize (execOp a.eval o).run P w = res at *
  have hdep : (Fw r).depth.isSome = true → 1 ≤ m := fun h => by rw [Fw_dep] at h; cases h
  cases res with
  | ok nx w' =>
    cases nx <;> simp only [Oper.upon] at h <;> simp only [Oper.uponIn]
    case value v => exact hK _ _ h
    case skip => exact hK _ _ h
    case defer d => exact hK _ _ h
    case enter f args =>
      refine ⟨hdep, Fw_calls r (h.mono fun e w'' he => ?_)⟩
      cases e with
      | returned v => exact hK _ _ he
      | panicked ch => exact (hp _ _ _ he).elim
      | outgrown => exact (ho he).elim
    case row rw args => exact ⟨hdep, Fw_rows r (h.mono fun v w'' hv => hK _ _ hv)⟩
  | halt x w' =>
    cases x <;> simp only [Oper.upon] at h
    exact (hp _ _ _ h).elim
section
variable {P : Program} {n : Nat} {ds : List Deferred} {ρ : E} {w : World} {r : Option Nat}
/-- A stretch of a region in the text's order. -/
theorem listIn {all : Array Oper} {Q Q' : Exit → Act → World → Prop} {rest : List Oper} (hp : ∀ c a w, ¬ Q (.panic c) a w) (ho : ¬ LetsOut Q) (hr : ∀ a w, Q .normal a w → wpListIn (Fw r) 0 P all Q' rest a w) :
    ∀ (pre : List Oper) (a : Act) (w : World), noDefer pre = true → wpList P all Q pre a w → wpListIn (Fw r) 0 P all Q' (pre ++ rest) a w
  | [], a, w, _, h => hr a w h
  | o :: l, a, w, hd, h => by
    have hd' : noDefer l = true := by unfold noDefer at *; simp only [List.all_cons, Bool.and_eq_true] at hd; exact hd.2
    have ih := fun a w => listIn hp ho hr l a w hd'
    show wpListIn (Fw r) 0 P all Q' (o :: (l ++ rest)) a w
    unfold wpList at h
    unfold wpListIn
    split
    · rename_i hw
      rw [if_pos hw] at h
      exact h.elim (fun h => opIn (noDefer_at hd (by simp)) ih hp ho h) (fun h => (ho h.2).elim)
    · rename_i hw
      rw [if_neg hw] at h
      exact ⟨fun f _ => Fw_fn r f, ih _ _ h⟩
theorem anyIn {all : Array Oper} {Q Q' : Exit → Act → World → Prop} (hp : ∀ c a w, ¬ Q (.panic c) a w) (ho : ¬ LetsOut Q) (hq : ∀ a w, Q .normal a w → Q' .normal a w) (hd : noDefer all.toList = true) :
    ∀ (m : Nat) (L : Array Bool) (a : Act) (w : World), wpAny P .any all Q m L a w → wpAnyIn (Fw r) 0 P .any all Q' m L a w
  | 0, L, a, w, h => ⟨h.1, hq _ _ h.2⟩
  | m + 1, L, a, w, h => by
    refine ⟨fun e => hq _ _ (h.1 e), fun i hi => ?_⟩
    have := h.2 i hi
    unfold wpOp at this
    unfold wpOpIn
    split
    · rename_i e; rw [e] at this; exact anyIn hp ho hq hd m _ _ _ this
    · rename_i o e
      rw [e] at this
      simp only at this
      split
      · rename_i hw
        rw [if_pos hw] at this
        rcases this with h | ⟨_, h⟩
        · refine opIn (noDefer_at hd ?_) (fun a w => anyIn hp ho hq hd m _ a w) hp ho h
          exact Array.mem_toList_iff.2 (Array.mem_of_getElem? e)
        · exact (ho h).elim
      · rename_i hw
        rw [if_neg hw] at this
        exact ⟨fun f _ => Fw_fn r f, anyIn hp ho hq hd m _ _ _ this⟩
def LI (n : Nat) (ds : List Deferred) (Q : Post) (e : Exit) (a : Act) (w : World) : Prop := ∃ ρ', Rep n a ρ' ∧ a.defers = ds ∧ Q e ρ' w
/-- A code's walk within a fence. -/
def Wi (r : Option Nat) (P : Program) (n : Nat) (ds : List Deferred) (c : Code) (Q : Post) (ρ : E) (w : World) : Prop :=
  ∀ a, Rep n a ρ → a.defers = ds → c.wpIn (Fw r) 0 P (LI n ds Q) a w
theorem Wi.mono {c : Code} {Q Q' : Post} (h : Wi r P n ds c Q ρ w) (hj : ∀ e ρ w, Q e ρ w → Q' e ρ w) : Wi r P n ds c Q' ρ w :=
  fun a hr hd => wpIn_mono (h a hr hd) fun e a w ⟨ρ', h1, h2, h3⟩ => ⟨ρ', h1, h2, hj _ _ _ h3⟩
theorem Wi.seq {x y : Code} {Q : Post} (h : Wi r P n ds x (fun e ρ w => match e with | .normal => Wi r P n ds y Q ρ w | e => Q e ρ w) ρ w) : Wi r P n ds (.seq x y) Q ρ w := by
  intro a hr hd
  refine wpIn_seq (wpIn_mono (h a hr hd) ?_)
  rintro e a w ⟨ρ', h1, h2, h3⟩
  cases e with
  | normal => exact h3 a h1 h2
  | _ => exact ⟨ρ', h1, h2, h3⟩
theorem Wi.skip {Q : Post} (h : Q .normal ρ w) : Wi r P n ds .skip Q ρ w := fun a hr hd => wpIn_skip ⟨ρ, hr, hd, h⟩
theorem Wi.exit {id : Nat} {Q : Post} (h : Q (.exit id) ρ w) : Wi r P n ds (.exit id) Q ρ w := fun a hr hd => wpIn_exit ⟨ρ, hr, hd, h⟩
theorem Wi.cond {c : Operand} {x y : Code} {t : Bool} {Q : Post} (hc : ev ρ c = some (.bool t)) (h1 : t = true → Wi r P n ds x Q ρ w) (h2 : t = false → Wi r P n ds y Q ρ w) : Wi r P n ds (.cond c x y) Q ρ w :=
  fun a hr hd => wpIn_cond_split (hr.ev hc) (fun e => h1 e a hr hd) (fun e => h2 e a hr hd)
theorem Wi.block {id : Nat} {c : Code} {Q : Post} (h : Wi r P n ds c (fun e ρ w => match e with | .exit i => if i = id then Q .normal ρ w else Q (.exit i) ρ w | e => Q e ρ w) ρ w) : Wi r P n ds (.block id c) Q ρ w := by
  intro a hr hd
  refine wpIn_block (wpIn_mono (h a hr hd) ?_)
  rintro e a w ⟨ρ', h1, h2, h3⟩
  cases e with
  | exit i =>
    have h3' : if i = id then Q .normal ρ' w else Q (.exit i) ρ' w := h3
    show if i = id then _ else _
    split
    · rename_i e; rw [if_pos e] at h3'; exact ⟨ρ', h1, h2, h3'⟩
    · rename_i e; rw [if_neg e] at h3'; exact ⟨ρ', h1, h2, h3'⟩
  | _ => exact ⟨ρ', h1, h2, h3⟩
theorem Wi.loop {c : Code} {Q : Post} (I : Nat → E → World → Prop) {m : Nat} (h0 : I m ρ w)
    (round : ∀ m ρ w, I m ρ w → Wi r P n ds c (fun e ρ1 w1 => match e with | .normal => ∃ m2 ρ2, (I m2 ρ2 w1 ∧ m2 < m) ∧ Sub ρ2 ρ1 | e => Q e ρ1 w1) ρ w) :
    Wi r P n ds (.loop c) Q ρ w := by
  intro a hr hd
  have key : ∀ m a w, (∃ ρ, Rep n a ρ ∧ a.defers = ds ∧ I m ρ w) → (Code.loop c).wpIn (Fw r) 0 P (LI n ds Q) a w := by
    intro m a w ha
    refine wpIn_loop (P := P) (fun a w => ∃ m ρ, Rep n a ρ ∧ a.defers = ds ∧ I m ρ w) (fun a w => Classical.epsilon fun m => (∃ ρ, Rep n a ρ ∧ a.defers = ds ∧ I m ρ w) ∧ ∀ m', (∃ ρ, Rep n a ρ ∧ a.defers = ds ∧ I m' ρ w) → m ≤ m') ⟨m, ha⟩ ?_
    rintro a w ⟨m1, hm1⟩
    have hmin : ∀ a w, (∃ m, ∃ ρ, Rep n a ρ ∧ a.defers = ds ∧ I m ρ w) → (fun m => (∃ ρ, Rep n a ρ ∧ a.defers = ds ∧ I m ρ w) ∧ ∀ m', (∃ ρ, Rep n a ρ ∧ a.defers = ds ∧ I m' ρ w) → m ≤ m') (Classical.epsilon fun m => (∃ ρ, Rep n a ρ ∧ a.defers = ds ∧ I m ρ w) ∧ ∀ m', (∃ ρ, Rep n a ρ ∧ a.defers = ds ∧ I m' ρ w) → m ≤ m') := by
      intro a w hex
      refine Classical.epsilon_spec (p := fun m => (∃ ρ, Rep n a ρ ∧ a.defers = ds ∧ I m ρ w) ∧ ∀ m', (∃ ρ, Rep n a ρ ∧ a.defers = ds ∧ I m' ρ w) → m ≤ m') ?_
      obtain ⟨m, hm⟩ := hex
      induction m using Nat.strongRecOn with
      | _ m ih =>
        by_cases hlt : ∃ m' < m, ∃ ρ, Rep n a ρ ∧ a.defers = ds ∧ I m' ρ w
        · obtain ⟨m', h1, h2⟩ := hlt
          exact ih m' h1 h2
        · refine ⟨m, hm, fun m' h' => ?_⟩
          by_cases h'' : m ≤ m'
          · exact h''
          · exact absurd ⟨m', by omega, h'⟩ hlt
    obtain ⟨⟨ρ1, hr1, hd1, hI1⟩, hle⟩ := hmin a w ⟨m1, hm1⟩
    refine wpIn_mono (round _ ρ1 w hI1 a hr1 hd1) fun e a2 w2 hl => ?_
    obtain ⟨ρ2, hr2, hd2, hl⟩ := hl
    cases e with
    | normal =>
      obtain ⟨m3, ρ3, ⟨hI3, hlt⟩, hs3⟩ : ∃ m2 ρ2', (I m2 ρ2' w2 ∧ m2 < _) ∧ Sub ρ2' ρ2 := hl
      have hex : ∃ ρ, Rep n a2 ρ ∧ a2.defers = ds ∧ I m3 ρ w2 := ⟨ρ3, hr2.sub hs3, hd2, hI3⟩
      exact ⟨⟨m3, hex⟩, Nat.lt_of_le_of_lt ((hmin a2 w2 ⟨m3, hex⟩).2 m3 hex) hlt⟩
    | _ => exact ⟨ρ2, hr2, hd2, hl⟩
  exact key m a w ⟨ρ, hr, hd, h0⟩
theorem Wi.sub {c : Code} {Q : Post} {ρ' : E} (hs : Sub ρ' ρ) (h : Wi r P n ds c Q ρ' w) : Wi r P n ds c Q ρ w := fun a hr hd => h a (hr.sub hs) hd
/-- Operations of a region within a fence. -/
def OpsI (r : Option Nat) (P : Program) (n : Nat) (ds : List Deferred) (all : Array Oper) (Q : Post) (l : List Oper) (ρ : E) (w : World) : Prop :=
  ∀ a, Rep n a ρ → a.defers = ds → wpListIn (Fw r) 0 P all (LI n ds Q) l a w
theorem Wi.region {id : Nat} {l : List Oper} {Q : Post} (h : OpsI r P n ds l.toArray Q l ρ w) : Wi r P n ds (.region id l.toArray false) Q ρ w :=
  fun a hr hd => wpIn_region_lit (h a hr hd)
theorem OpsI.nil {all : Array Oper} {Q : Post} (h : Q .normal ρ w) : OpsI r P n ds all Q [] ρ w := fun a hr hd => wpListIn_nil ⟨ρ, hr, hd, h⟩
/-- A stretch without yield. -/
theorem OpsI.pre {all : Array Oper} {Q : Post} {rest : List Oper} (pre : List Oper) (hi : (pre.all fun o => dOk n o.dst) = true) (hd : noDefer pre = true)
    (h : Ops none P n ds all [.lp (OpsI r P n ds all Q rest)] (fun _ _ _ => False) pre ρ w) : OpsI r P n ds all Q (pre ++ rest) ρ w := by
  intro a hr hds
  exact listIn (fun c a w h => by obtain ⟨_, _, h⟩ := h; exact h.2) (fun h => by obtain ⟨_, _, _, _, h⟩ := h; exact h.2) (fun a w h => by obtain ⟨ρ', h1, h2, h3⟩ := h; exact h3 a h1 h2) pre a w hd (h hi a hr hds)
theorem OpsI.split {all : Array Oper} {Q : Post} {l pre rest : List Oper} (m : Nat) (h1 : l.take m = pre) (h2 : l.drop m = rest) (hi : (pre.all fun o => dOk n o.dst) = true) (hd : noDefer pre = true)
    (h : Ops none P n ds all [.lp (OpsI r P n ds all Q rest)] (fun _ _ _ => False) pre ρ w) : OpsI r P n ds all Q l ρ w := by
  have := OpsI.pre (r := r) (Q := Q) (rest := rest) pre hi hd h
  rw [← h1, ← h2, List.take_append_drop] at this
  exact this
theorem OpsI.sub {all : Array Oper} {Q : Post} {l : List Oper} {ρ' : E} (hs : Sub ρ' ρ) (h : OpsI r P n ds all Q l ρ' w) : OpsI r P n ds all Q l ρ w := fun a hr hd => h a (hr.sub hs) hd
theorem Wi.regionN {id : Nat} {l : List Oper} {Q : Post} (hi : (l.all fun o => dOk n o.dst) = true) (hd : noDefer l = true) (h : Ops none P n ds l.toArray [.lp (Q .normal)] (fun _ _ _ => False) l ρ w) : Wi r P n ds (.region id l.toArray false) Q ρ w := by
  refine Wi.region ?_
  have := OpsI.pre (r := r) (rest := []) (Q := Q) (all := l.toArray) l hi hd (ρ := ρ) (w := w) (P := P) (ds := ds) (fun hh a hr hds => wpList_mono (fun e a w h => by
    obtain ⟨ρ', h1, h2⟩ := h
    cases e with
    | normal => exact ⟨ρ', h1, LiftD.mk h2.1 (OpsI.nil h2.2)⟩
    | ret => obtain ⟨_, _, h3⟩ := h2; exact h3.elim
    | _ => exact h2.2.elim) _ _ _ (h hh a hr hds))
  rwa [List.append_nil] at this
/-- A guarded call of yield. -/
theorem OpsI.yield {all : Array Oper} {Q : Post} {rest : List Oper} {o : Oper} {d j g : Nat} {x y : Operand} {l : Nat} {v : Value} {ts : Array TypeId}
    (ho : o.op = .call { callee := .value x, args := #[y], argTypes := ts }) (hdst : o.dst = some d) (hlt : Nat.blt d n = true) (hg : o.guard = some (j, true)) (hj : (all[j]?).bind (·.dst) = some g) (hv : look ρ g = some (.bool true))
    (hx : ev ρ x = some (.func (.yield l) #[] #[])) (hy : ev ρ y = some v)
    (hyld : YieldAt (Fw r) 0 P l #[v] w (fun e w' => e = .returned (.bool true) ∧ OpsI r P n ds all Q rest ((d, .bool true) :: ρ) w')) : OpsI r P n ds all Q (o :: rest) ρ w := by
  intro a hr hd
  unfold wpListIn
  have hyy := yielded_of hr hj hv
  rw [if_pos (by simp [Region.wanted, hg, hyy])]
  refine ⟨fun f _ => Fw_fn r f, ?_⟩
  rw [Oper.semAt_eq _ _ _ (by rw [ho]; simp)]
  obtain ⟨fn, tmps, assign, body, hrun, hround⟩ := hyld
  have he : (execOp a.eval o).run P w = .ok (.round l fn tmps assign body) w := by
    have q : #[y].map a.eval = #[v] := by simp only [List.map_toArray, List.map_cons, List.map_nil, hr.ev hy]
    rw [← hrun]
    simp only [execOp, ho, resolve, q]
    simp [hr.ev hx, Deferred.ofValue, invoke]
  rw [he, Oper.uponIn_round]
  refine ⟨fun h => (by rw [Fw_dep] at h; cases h), RoundIn.mono hround fun e w' he => ?_⟩
  obtain ⟨rfl, h⟩ := he
  have hput : Rep n (a.put o.dst (.bool true)) ((d, .bool true) :: ρ) := by
    have := hr.put (d := o.dst) (by rw [hdst]; exact hlt) (.bool true)
    rw [hdst] at this ⊢
    exact this
  exact h _ hput (by rw [hdst]; exact hd)
theorem ordA_any {Φ : Post} {k : List It} {ops : Array Oper} (s : Nat) (π : List (Nat × Nat)) (hi : (ops.toList.all fun o => dOk n o.dst) = true) (hs : Region.noSelect ops = true) (hlen : π.length = ops.size) (hc : chkA ops s π (List.replicate π.length false) = true) (hΦ : ∀ c ρ w, (Φ (.panic c) ρ w → Φ (.panic c) [] w))
    (h : OrdA P n ds ops k Φ s (fun w' => Below w.heap.size w w') π (List.replicate π.length false) ρ) (a : Act) (hr : Rep n a ρ) (hd : a.defers = ds) : wpAny P .any ops (lift n ds (Qof P n ds Φ k)) ops.size (Array.replicate ops.size false) a w.drew := by
  have := wpAny_of_A _ _ _ (h hc hs hi (by rw [List.toArray_replicate]; exact Cl.start _) hΦ a hr hd) w.drew (Kp.below (kp_drew w) (Nat.le_refl _) (fun _ _ e => e))
  rw [← hlen]
  rw [List.toArray_replicate] at this
  exact this
theorem Wi.ordA {id : Nat} {ops : Array Oper} {Q : Post} (s : Nat) (π : List (Nat × Nat)) (hm : P.follows .mixedOrders = true) (hi : (ops.toList.all fun o => dOk n o.dst) = true) (hdf : noDefer ops.toList = true) (hs : Region.noSelect ops = true) (hlen : π.length = ops.size) (hc : chkA ops s π (List.replicate π.length false) = true)
    (h : OrdA P n ds ops [.lp (Q .normal)] (fun _ _ _ => False) s (fun w' => Below w.heap.size w w') π (List.replicate π.length false) ρ) : Wi r P n ds (.region id ops true) Q ρ w := by
  intro a hr hd
  refine wpIn_region_any hm ?_
  exact anyIn (fun c a w h => by obtain ⟨_, _, h⟩ := h; exact h.2) (fun h => by obtain ⟨_, _, _, _, h⟩ := h; exact h.2) (fun a w h => by obtain ⟨ρ', h1, h2, h3⟩ := h; exact ⟨ρ', h1, h2, h3⟩) hdf _ _ _ _ (ordA_any s π hi hs hlen hc (fun _ _ _ h => h) h a hr hd)
/-- A function that may call yield, from its first instruction on. -/
theorem callsIn_Wi {f : FuncId} {fn : Func} {c : Code} {vs : List Value} {R : Value → World → Prop} (hf : P.funcs[f]? = some fn) (hb : fn.body = some c) (hs : Nat.ble vs.length fn.ntmps = true)
    (h : Wi none P fn.ntmps [] c (fun e ρ w => (e = .normal ∨ e = .ret) ∧ ∃ us, resT fn.results.toList ρ = some us ∧ R (resV us) w) (argE vs 0) w) : CallsIn (Fw none) 0 P f vs.toArray w (Ret R) := by
  have hs' : vs.length ≤ fn.ntmps := Nat.le_of_ble_eq_true hs
  refine callsIn_of_wp hf hb trivial ?_
  have hrep : Rep fn.ntmps { tmps := vs.toArray ++ Array.replicate (fn.ntmps - vs.toArray.size) undef, defers := [] } (argE vs 0) := by
    refine ⟨by simp; omega, fun t v hl => ?_⟩
    obtain ⟨_, h2⟩ := look_argE vs 0 t v hl
    have ht : t < vs.length := by
      rw [Nat.sub_zero] at h2
      exact (List.getElem?_eq_some_iff.1 h2).1
    rw [Nat.sub_zero] at h2
    simp [Array.getD_eq_getD_getElem?, Array.getElem?_append, ht, h2]
    rw [List.getElem?_eq_getElem ht] at h2
    simpa using h2
  refine wpIn_mono (h _ hrep rfl) ?_
  rintro e a w' ⟨ρ', hr', hd', he, us, hu, hR⟩
  rcases he with rfl | rfl
  · exact ⟨hd', _, run_results hr' hu, _, rfl, hR⟩
  · exact ⟨hd', _, run_results hr' hu, _, rfl, hR⟩
end
end Go.Proofs.YtcmjlmnfdncajaaGreatDoor.VW
/- A range over a function, and one of its rounds. -/
namespace Go.Proofs.YtcmjlmnfdncajaaGreatDoor.VW
open Go Go.RowKit
abbrev loopRec (fn : FuncId) (tmps : Array Value) (ps : Array Tmp) (assign body : Code) (D : Nat) : Loop := { state := .ready, pending := none, fn, tmps, params := ps, assign, body, defers := D }
section
variable {P : Program} {n : Nat} {ds : List Deferred} {ρ : E} {w : World}
theorem round_in {fn : FuncId} {tmps : Array Value} {p : Nat} {assign body : Code} {D L : Nat} {v : Value} {R : Ending → World → Prop} (hL : w.heap[L]? = some (.loop (loopRec fn tmps #[p] assign body D))) (hr : Rep n { tmps := tmps, defers := [] } ρ) (hp : Nat.blt p n = true)
    (h : Wi (some L) P n [] assign (fun e ρ1 w1 => e = .normal ∧ ∃ r, w1.heap[L]? = some (.loop r) ∧ r.state = .ready ∧ Wi (some L) P n [] body (fun e ρ2 w2 => e = .normal ∧ ∃ r2, w2.heap[L]? = some (.loop r2) ∧ R (.returned (.bool true)) (w2.putObj L (.loop { r2 with state := .ready, pending := none }))) ρ1 (w1.putObj L (.loop { r with state := .busy }))) ((p, v) :: ρ) w) :
    YieldAt (Fw none) 0 P L #[v] w R := by
  refine ⟨fn, _, assign, body, run_yield hL rfl, roundIn_of_wpIn (Fw_fn none fn) ?_⟩
  have hrep : Rep n { tmps := ((#[p] : Array Tmp).zip #[v]).foldl (fun tmps (t, a) => tmps.setIfInBounds t a) tmps, defers := [] } ((p, v) :: ρ) := by
    have := hr.put (d := some p) hp v
    simpa [Act.put, VW.put] using this
  refine wpIn_mono (h _ hrep rfl) ?_
  rintro e a w1 ⟨ρ1, hr1, hd1, rfl, r, hl1, hs1, hb⟩
  refine ⟨_, run_beginRound hl1 hs1, wpIn_mono (hb _ hr1 hd1) ?_⟩
  rintro e a2 w2 ⟨ρ2, hr2, hd2, rfl, r2, hl2, hR⟩
  exact ⟨_, _, run_endRound none hl2, hR⟩
/-- Code with a tail c2 still to come, before which marks may be laid. -/
def JW (P : Program) (n : Nat) (ds : List Deferred) (Φ : Post) (c2 c : Code) (ρ : E) (w : World) : Prop :=
  inB n c = true → ∀ a, Rep n a ρ → a.defers = ds → c.wp P (Exit.then (c2.wp P (lift n ds (Qof P n ds Φ []))) (lift n ds (Qof P n ds Φ []))) a w
theorem W.toJ {Y c2 : Code} {Φ : Post} (h : JW P n ds Φ c2 Y ρ w) : W P n ds [.code (.seq Y c2)] Φ ρ w := by
  intro hi a hr hd
  simp only [inB, Bool.and_eq_true] at hi
  exact wp_seq (h hi.1 a hr hd)
theorem JW.seq {x rest c2 : Code} {Φ : Post} (hi2 : inB n rest = true) (h : W P n ds [.code x, .lp (JW P n ds Φ c2 rest)] Φ ρ w) : JW P n ds Φ c2 (.seq x rest) ρ w := by
  intro hi a hr hd
  simp only [inB, Bool.and_eq_true] at hi
  refine wp_seq (wp_mono (h hi.1 a hr hd) fun e a w hl => ?_)
  cases e with
  | normal =>
    obtain ⟨ρ', hr', hl⟩ := hl
    obtain ⟨hd', hq⟩ := hl
    exact hq hi2 a hr' hd'
  | _ => exact hl
theorem JW.sub {c c2 : Code} {Φ : Post} {ρ' : E} (hs : Sub ρ' ρ) (h : JW P n ds Φ c2 c ρ' w) : JW P n ds Φ c2 c ρ w := fun hi a hr hd => h hi a (hr.sub hs) hd
theorem JW.range {id : Nat} {g : Operand} {p : Nat} {assign body c2 : Code} {gf : Nat} {lb : List Value} {Φ : Post} (hg : ev ρ g = some (.func (.func gf) #[] lb.toArray)) (hgf : callOk P gf = true) (hi2 : inB n c2 = true)
    (h : ∀ fn tmps, Rep n { tmps := tmps, defers := [] } ρ → ∀ D W1, D = w.heap.size → W1 = (w.alloc (.deferred (some []))).alloc (.loop (loopRec fn tmps #[p] assign body D)) →
      CallsIn (Fw none) 0 P gf (.func (.yield (D + 1)) #[] #[] :: lb).toArray W1 (Ret fun _ W2 => ∃ r, W2.heap[D + 1]? = some (.loop r) ∧ r.state = .ready ∧ r.pending = none ∧ W2.heap[D]? = some (.deferred (some [])) ∧
        ∀ W3, W3 = W2.putObj (D + 1) (.loop { r with state := .exhausted }) → W P n ({ target := .collected D, args := #[] } :: ds) [.code c2] (fun e ρ w => e = .ret ∧ w.heap[D]? = some (.deferred (some [])) ∧ Φ .ret ρ (w.putObj D (.deferred none))) ρ W3)) :
    JW P n ds Φ c2 (.block id (.rangeFunc g #[p] assign body)) ρ w := by
  intro hi a hr hd
  refine (wpIn_wide (n := 0)).1 (wpIn_block (wpIn_rangeFunc fun fn hfn => ?_))
  have hrep : Rep n { tmps := a.tmps, defers := [] } ρ := ⟨hr.size, hr.slot⟩
  have hcall := h fn a.tmps hrep _ _ rfl rfl
  have hev := hr.ev hg
  refine ⟨_, _, _, { target := .fn (.func gf) lb.toArray, args := #[.func (.yield (w.heap.size + 1)) #[] #[]] }, (w.alloc (.deferred (some []))).alloc (.loop (loopRec fn a.tmps #[p] assign body w.heap.size)), gf, _, _, run_enterLoop_outer _ _ _ _ _, ?_, fun f' _ => trivial, ?_, fun h => (by cases h), CallsIn.mono hcall ?_⟩
  · simp only [resolve, hev]
    simp [go_sem]
  · have hcf := run_callFunc (P := P) (w := (w.alloc (.deferred (some []))).alloc (.loop (loopRec fn a.tmps #[p] assign body w.heap.size))) (args := (.func (.yield (w.heap.size + 1)) #[] #[] :: lb).toArray) hgf
    have e : (Value.func (.yield (w.heap.size + 1)) #[] #[] :: lb).toArray = #[.func (.yield (w.heap.size + 1)) #[] #[]] ++ lb.toArray := by simp
    rw [e] at hcf ⊢
    simpa [invoke] using hcf
  · rintro e W2 ⟨v, rfl, r, hl, hs, hp, hD, hw⟩
    obtain ⟨st, pe, q1, q2, q3, q4, q5, q6⟩ := r
    simp only at hs hp
    subst hp
    refine ⟨none, _, run_endLoop (P := P) hl (by simp [hs]), ?_⟩
    show c2.wp P _ _ _
    have hw' := hw _ rfl hi2 { a with defers := { target := .collected w.heap.size, args := #[] } :: a.defers } ⟨hr.size, hr.slot⟩ (by rw [hd])
    refine wp_mono hw' ?_
    rintro e a3 w3 ⟨ρ3, hr3, hl3⟩
    cases e with
    | ret =>
      obtain ⟨w4, hm, _, hD3, hΦ⟩ := hl3
      exact ⟨ρ3, hr3, _, hm.trans (.cons hD3 (.nil _ _)), Qof.ret hΦ⟩
    | _ => exact absurd hl3.2.1 (by simp)
end
section
variable {P : Program} [hT : Tab P] {n : Nat} {ds : List Deferred} {ρ : E} {w : World} {all : Array Oper} {k : List It} {Φ : Post} {s : Nat} {F : World → Prop} {π : List (Nat × Nat)} {L : List Bool}
theorem x_D {i d t b q t' : Nat} {o : Oper} {x : Operand} {cs : Array Value} {v : Value} {w0 : World} {c : Bool} (h1 : all[i]? = some o := by exact rfl) (ho : o.op = .load t x := by exact rfl) (hd : o.dst = some d := by exact rfl) (hg : gdB all ρ o.guard = some c := by exact rfl) (hgc : c = true := by exact rfl)
    (ht : tyAgg P t = some false := by exact rfl) (hx : ev ρ x = some (.pointer (some ⟨b, q, none⟩)) := by exact rfl) (hb : Blk w0 b cs t' := by assumption) (hF : ∀ w, F w → Below w0.heap.size w0 w := by first | exact fun _ h => h | (intro _ h; exact Below.via (by assumption) h)) (hi : nth cs.toList q = some v := by exact rfl) (kk : OrdA P n ds all k Φ s F π (L.set i true) ((d, v) :: ρ)) : OrdA P n ds all k Φ s F ((i, 2) :: π) L ρ :=
  OrdA.read h1 hd hg hgc (fun w hFw => EV.ld ho ht hx ((hb.kp (Kp.of_below (S := fun _ => False) (hF w hFw)) (fun e => e)).cell (by rw [nth_eq, Array.getElem?_toList] at hi; exact hi))) kk
end
end Go.Proofs.YtcmjlmnfdncajaaGreatDoor.VW
/- A store into a slice of the call's own, behind another effect of a drawn region. -/
namespace Go.Proofs.YtcmjlmnfdncajaaGreatDoor.VW
open Go Go.RowKit
section
variable {P : Program} [hT : Tab P] {n : Nat} {ds : List Deferred} {Φ : Post} {k : List It} {ρ : E} {w : World} {all : Array Oper} {π : List (Nat × Nat)} {L : List Bool}
theorem Ord.wrO {α : Type} {enc : α → Value} {w0 : World} {i1 i2 d1 t t' e : Nat} {o1 o2 : Oper} {x y z : Operand} {v : Value} {u : α} {i : Int} {os : List α} {c1 : Bool}
    (h1 : all[i1]? = some o1) (ho : o1.op = .indexAddr t x y) (hd1 : o1.dst = some d1) (hg1 : gdB all ρ o1.guard = some c1) (hc1 : c1 = true) (h2 : all[i2]? = some o2) (ho2 : o2.op = .store t' (.tmp d1) z) (hd2 : o2.dst = none) (hg2 : o2.guard = none)
    (ht : tyD P t = some (.slice e)) (hs : tyS P e = some 1) (hs' : tyS P t' = some 1) (hx : ev ρ x = some v) (hy : ev ρ y = some (.int .i64 i)) (hz : ∀ p, ev ((d1, .pointer p) :: ρ) z = some (enc u)) (h1c : (enc u).oneCell' = true)
    (hO : OI e enc w0 w v os) (h0 : 0 ≤ i) (hi : i < os.length) (hΦ : ∀ c ρ w, (Φ (.panic c) ρ w → Φ (.panic c) [] w))
    (hk : ∀ w' p, OI e enc w0 w' v (os.set i.toNat u) → Kp (fun b => v.ownBlock = some b) w w' → w'.heap.size = w.heap.size → VW.Ord P n ds all k Φ 9999 (fun _ => True) π ((L.set i1 true).set i2 true) ((d1, p) :: ρ) w') : VW.Ord P n ds all k Φ 9999 (fun _ => True) ((i1, 1) :: (i2, 0) :: π) L ρ w := by
  obtain ⟨A, c, rfl⟩ := hO.sh
  have hA : ∃ a, A = some a := by
    cases A with
    | some a => exact ⟨a, rfl⟩
    | none =>
      rcases hO.own.2 with ⟨h2, h3⟩ | ⟨g, cap, cur, h2, _⟩
      · omega
      · cases h2
  obtain ⟨a, rfl⟩ := hA
  refine VW.Ord.pure h1 hd1 hg1 hc1 hΦ (fun w => EV.idx ho ht hs hx hy h0 hi) (VW.Ord.effT h2 ?_)
  exact Ops.stO (i := i.toNat) ho2 hd2 hg2 hs' rfl (ev_top _ _ _) (hz _) h1c hO (by omega) (fun w' hO' k1 hsz => Ops.nil (W.endl (hk w' _ hO' k1 hsz)))
end
end Go.Proofs.YtcmjlmnfdncajaaGreatDoor.VW
