/- A part of the walk: what this seat's statements share. -/
import Derived.Test.YtcmjlmnfdncajaaGreatDoorZG4
import Derived.Laws.Concat
import Derived.Lib.Strings
import Derived.WalkSmall
import Derived.Test.YtcmjlmnfdncajaaGreatDoorZG1
set_option linter.unusedVariables false
set_option linter.unusedSimpArgs false
set_option linter.unusedSectionVars false
/- Rows of the call's own whose elements have two cells, of any type. -/
namespace Go.Proofs.YtcmjlmnfdncajaaGreatDoor.VW
open Go Go.RowKit
section
variable {α : Type} [Inhabited α]
def fp2 (fa fb : α → Value) : List α → List Value
  | [] => []
  | z :: r => fa z :: fb z :: fp2 fa fb r
theorem fp2_len (fa fb : α → Value) : ∀ os : List α, (fp2 fa fb os).length = os.length * 2
  | [] => rfl
  | z :: r => by simp only [fp2, List.length_cons, fp2_len fa fb r]; omega
theorem fp2_get {fa fb : α → Value} : ∀ (os : List α) (i : Nat), i < os.length → (fp2 fa fb os)[i * 2]? = some (fa (os.getD i default)) ∧ (fp2 fa fb os)[i * 2 + 1]? = some (fb (os.getD i default))
  | [], i, h => by simp at h
  | z :: r, 0, _ => ⟨rfl, rfl⟩
  | z :: r, i + 1, h => by
    have := fp2_get (fa := fa) (fb := fb) r i (by simpa using h)
    rw [show (i + 1) * 2 = i * 2 + 2 by omega]
    simpa [fp2] using this
theorem fp2_set {fa fb : α → Value} {u : α} : ∀ (os : List α) (i : Nat), ((fp2 fa fb os).set (i * 2) (fa u)).set (i * 2 + 1) (fb u) = fp2 fa fb (os.set i u)
  | [], i => rfl
  | z :: r, 0 => rfl
  | z :: r, i + 1 => by
    have := fp2_set (fa := fa) (fb := fb) (u := u) r i
    rw [show (i + 1) * 2 = i * 2 + 1 + 1 by omega]
    simp only [fp2, List.set_cons_succ, this]
structure OP (e : Nat) (fa fb : α → Value) (w0 w : World) (ov : Value) (os : List α) : Prop where
  bel : Below w0.heap.size w0 w
  own : w.ownsRow 0 e 2 ov os.length (fp2 fa fb os)
  ge : ∀ k, ov.ownBlock = some k → w0.heap.size ≤ k
theorem OP.kp {e : Nat} {fa fb : α → Value} {w0 w w' : World} {ov : Value} {os : List α} {S : Nat → Prop} (h : OP e fa fb w0 w ov os) (k : Kp S w w') (hs : ∀ i, S i → w0.heap.size ≤ i ∧ ov.ownBlock ≠ some i) : OP e fa fb w0 w' ov os :=
  ⟨Below.put h.bel k (fun i hi => (hs i hi).1), own_kp h.own k (fun i hi e => (hs i e).2 hi), h.ge⟩
theorem OP.below {e : Nat} {fa fb : α → Value} {w0 w w' : World} {ov : Value} {os : List α} (h : OP e fa fb w0 w ov os) (k : Below w.heap.size w w') : OP e fa fb w0 w' ov os := h.kp (Kp.of_below (S := fun _ => False) k) (fun _ e => e.elim)
theorem OP.up {e : Nat} {fa fb : α → Value} {w0 w1 w : World} {ov : Value} {os : List α} (h : OP e fa fb w1 w ov os) (k : Below w0.heap.size w0 w1) : OP e fa fb w0 w ov os :=
  ⟨Below.via k h.bel, h.own, fun i hi => by have := h.ge i hi; have := k.size; omega⟩
theorem OP.nil {e : Nat} {fa fb : α → Value} {w0 w : World} (h : Below w0.heap.size w0 w) : OP e fa fb w0 w (.slice none 0 0) [] := ⟨h, World.ownsRow_nil w 0 e 2, fun k hk => by simp [Value.ownBlock] at hk⟩
theorem OP.sh {e : Nat} {fa fb : α → Value} {w0 w : World} {ov : Value} {os : List α} (h : OP e fa fb w0 w ov os) : ∃ A c, ov = .slice A os.length c := by
  rcases h.own.2 with ⟨h2, h3⟩ | ⟨g, cap, cur, h2, _⟩
  · exact ⟨none, 0, by rw [h2, h3]⟩
  · exact ⟨_, _, h2⟩
theorem OP.at_ {e : Nat} {fa fb : α → Value} {w0 w : World} {ov : Value} {os : List α} (h : OP e fa fb w0 w ov os) (hp : 0 < os.length) : ∃ g c, ov = .slice (some ⟨g, 0, none⟩) os.length c ∧ ∀ i, i < os.length → w.cell? ((⟨g, 0, none⟩ : Addr).add (i * 2)) = some (fa (os.getD i default)) ∧ w.cell? (((⟨g, 0, none⟩ : Addr).add (i * 2)).add 1) = some (fb (os.getD i default)) := by
  rcases h.own.2 with ⟨h2, h3⟩ | ⟨g, cap, cur, h2, _⟩
  · omega
  · refine ⟨g, cap, h2, fun i hi => ?_⟩
    obtain ⟨a1, a2⟩ := fp2_get (fa := fa) (fb := fb) os i hi
    refine ⟨h.own.cells (g := g) (by rw [h2]; rfl) _ _ a1, ?_⟩
    have := h.own.cells (g := g) (by rw [h2]; rfl) _ _ a2
    rw [show ((⟨g, 0, none⟩ : Addr).add (i * 2)).add 1 = (⟨g, 0, none⟩ : Addr).add (i * 2 + 1) by simp only [add_lit, Nat.add_assoc]]
    exact this
section
variable {P : Program} [hT : Tab P] {n : Nat} {ds : List Deferred} {Φ : Post} {k : List It} {ρ : E} {w : World} {all : Array Oper} {l : List Oper} {md : Option (List Oper)} {s : Nat} {F : World → Prop} {π : List (Nat × Nat)} {L : List Bool}
/-- An element of two cells, read in a drawn region. -/
theorem OrdA.rdP2 {fa fb : α → Value} {i1 i2 d1 d2 t t' e : Nat} {o1 o2 : Oper} {x y : Operand} {v : Value} {i : Int} {os : List α} {w0 wr : World} {c1 c2 : Bool}
    (h1 : all[i1]? = some o1) (ho : o1.op = .indexAddr t x y) (hd1 : o1.dst = some d1) (hg1 : gdB all ρ o1.guard = some c1) (hc1 : c1 = true)
    (h2 : all[i2]? = some o2) (ho2 : o2.op = .load t' (.tmp d1)) (hd2 : o2.dst = some d2) (hg2 : ∀ p, gdB all ((d1, .pointer p) :: ρ) o2.guard = some c2) (hc2 : c2 = true)
    (ht : tyD P t = some (.slice e)) (hs : tyS P e = some 2) (ha : tyAgg P t' = some true) (hs2 : tyS P t' = some 2) (hx : ev ρ x = some v) (hy : ev ρ y = some (.int .i64 i)) (hO : OP e fa fb w0 wr v os) (hF : ∀ w, F w → Below wr.heap.size wr w) (h0 : 0 ≤ i) (hi : i < os.length)
    (hk : ∀ p, OrdA P n ds all k Φ s F π ((L.set i1 true).set i2 true) ((d2, .agg #[fa (os.getD i.toNat default), fb (os.getD i.toNat default)]) :: (d1, p) :: ρ)) : OrdA P n ds all k Φ s F ((i1, 1) :: (i2, 2) :: π) L ρ := by
  obtain ⟨g, c, rfl, hc⟩ := hO.at_ (by omega)
  obtain ⟨k1, k2⟩ := hc i.toNat (by omega)
  refine OrdA.pure h1 hd1 hg1 hc1 (fun w => EV.idx ho ht hs hx hy h0 hi) ?_
  exact OrdA.read h2 hd2 (hg2 _) hc2 (fun w hw => EV.ld2 ho2 ha hs2 (ev_top _ _ _) (cell_kp (Kp.of_below (S := fun _ => False) (hF w hw)) k1 (fun e => e)) (cell_kp (Kp.of_below (S := fun _ => False) (hF w hw)) k2 (fun e => e))) (hk _)
/-- An element of two cells, written. -/
theorem Ops.stP2 {fa fb : α → Value} {w0 : World} {o2 : Oper} {d1 t' e : Nat} {z : Operand} {v : Value} {u : α} {i : Nat} {os : List α} {a : Addr} {m c : Nat}
    (ho2 : o2.op = .store t' (.tmp d1) z) (hd2 : o2.dst = none) (hg2 : o2.guard = none) (hs' : tyS P t' = some 2) (hv : v = .slice (some a) m c) (hx : ev ρ (.tmp d1) = some (.pointer (some (a.add (i * 2))))) (hz : ev ρ z = some (.agg #[fa u, fb u])) (h1a : (fa u).oneCell' = true) (h1b : (fb u).oneCell' = true)
    (hO : OP e fa fb w0 w v os) (h1 : i < os.length)
    (hk : ∀ w', OP e fa fb w0 w' v (os.set i u) → Kp (fun b => v.ownBlock = some b) w w' → w'.heap.size = w.heap.size → Ops none P n ds all k Φ l ρ w') : Ops none P n ds all k Φ (o2 :: l) ρ w := by
  subst hv
  have hown := hO.own
  rcases hown.2 with ⟨h2, _⟩ | ⟨g, cap, cur, h2, _, hg, hnc, hx2, hcs, ht'⟩
  · cases h2
  · cases h2
    obtain ⟨s1, g1⟩ := hown.stored (i * 2) (fa u)
    obtain ⟨s2, g2⟩ := s1.stored (i * 2 + 1) (fb u)
    rw [fp2_set] at s2
    obtain ⟨a1, a2⟩ := fp2_get (fa := fa) (fb := fb) os i h1
    have c1 := hown.cells (g := g) rfl _ _ a1
    have c2 := s1.cells (g := g) rfl (i * 2 + 1) (fb (os.getD i default)) (by rw [List.getElem?_set_ne (by omega)]; exact a2)
    rw [add_lit, Nat.zero_add] at c1 c2 hx
    have f1 : w.frozen? ⟨g, i * 2, none⟩ = false := by simp [World.frozen?, hg]
    have f2 : (w.setCell ⟨g, i * 2, none⟩ (fa u)).frozen? ⟨g, i * 2 + 1, none⟩ = false := by rw [World.frozen?_setCell]; simp [World.frozen?, hg]
    have r1 := run_store (P := P) h1a c1 f1
    have r2 := run_store (P := P) h1b c2 f2
    have kk := (Kp.of_grown g1).trans (Kp.of_grown g2)
    have kS : Kp (fun b => (Value.slice (some ⟨g, 0, none⟩) os.length c).ownBlock = some b) w ((w.setCell ⟨g, i * 2, none⟩ (fa u)).setCell ⟨g, i * 2 + 1, none⟩ (fb u)) := kk.mono (fun b _ e => by simp at e; simp [Value.ownBlock, e])
    refine Ops.unit hg2 hd2 (fun a hr => ?_) (hk _ ⟨Below.put hO.bel kS (fun i hi => hO.ge i hi), by simpa using s2, hO.ge⟩ kS (by simp))
    simp only [execOp, ho2, hr.ev hx, hr.ev hz]
    simp [Instr.storeAt, Instr.sureAddr, storeVar, run_sizeOf hs', Value.cells, storeCells, add_lit, r1, r2]
/-- An element is written at the end of a region. -/
theorem OrdA.wrP2 {fa fb : α → Value} {w0 wr : World} {i1 d1 t t' e : Nat} {o1 o2 : Oper} {x y z : Operand} {v : Value} {u : α} {i : Int} {os : List α} {c1 : Bool}
    (h1 : all[i1]? = some o1) (ho : o1.op = .indexAddr t x y) (hd1 : o1.dst = some d1) (hg1 : gdB all ρ o1.guard = some c1) (hc1 : c1 = true) (h2 : all[s]? = some o2) (ho2 : o2.op = .store t' (.tmp d1) z) (hd2 : o2.dst = none) (hg2 : o2.guard = none)
    (ht : tyD P t = some (.slice e)) (hs : tyS P e = some 2) (hs' : tyS P t' = some 2) (hx : ev ρ x = some v) (hy : ev ρ y = some (.int .i64 i)) (hz : ∀ p, ev ((d1, .pointer p) :: ρ) z = some (.agg #[fa u, fb u])) (h1a : (fa u).oneCell' = true) (h1b : (fb u).oneCell' = true)
    (hO : OP e fa fb w0 wr v os) (hF : ∀ w, F w → Below wr.heap.size wr w) (h0 : 0 ≤ i) (hi : i < os.length)
    (hk : ∀ w w' p, F w → OP e fa fb w0 w' v (os.set i.toNat u) → Kp (fun b => v.ownBlock = some b) w w' → w'.heap.size = w.heap.size → Ord P n ds all k Φ 9999 (fun _ => True) π ((L.set i1 true).set s true) ((d1, p) :: ρ) w') : OrdA P n ds all k Φ s F ((i1, 1) :: (s, 0) :: π) L ρ := by
  obtain ⟨A, c, rfl⟩ := hO.sh
  have hA : ∃ a, A = some a := by
    cases A with
    | some a => exact ⟨a, rfl⟩
    | none =>
      rcases hO.own.2 with ⟨h2, h3⟩ | ⟨g, cap, cur, h2, _⟩
      · omega
      · cases h2
  obtain ⟨a, rfl⟩ := hA
  refine OrdA.pure h1 hd1 hg1 hc1 (fun w => EV.idx ho ht hs hx hy h0 hi) (OrdA.eff h2 fun w hw => ?_)
  exact Ops.stP2 (i := i.toNat) ho2 hd2 hg2 hs' rfl (ev_top _ _ _) (hz _) h1a h1b (hO.below (hF w hw)) (by omega) (fun w' hO' k1 hsz => Ops.nil (W.endl (hk w w' _ hw hO' k1 hsz)))
theorem Ord.wrP2 {fa fb : α → Value} {w0 : World} {i1 i2 d1 t t' e : Nat} {o1 o2 : Oper} {x y z : Operand} {v : Value} {u : α} {i : Int} {os : List α} {c1 : Bool}
    (h1 : all[i1]? = some o1) (ho : o1.op = .indexAddr t x y) (hd1 : o1.dst = some d1) (hg1 : gdB all ρ o1.guard = some c1) (hc1 : c1 = true) (h2 : all[i2]? = some o2) (ho2 : o2.op = .store t' (.tmp d1) z) (hd2 : o2.dst = none) (hg2 : o2.guard = none)
    (ht : tyD P t = some (.slice e)) (hs : tyS P e = some 2) (hs' : tyS P t' = some 2) (hx : ev ρ x = some v) (hy : ev ρ y = some (.int .i64 i)) (hz : ∀ p, ev ((d1, .pointer p) :: ρ) z = some (.agg #[fa u, fb u])) (h1a : (fa u).oneCell' = true) (h1b : (fb u).oneCell' = true)
    (hO : OP e fa fb w0 w v os) (h0 : 0 ≤ i) (hi : i < os.length) (hΦ : ∀ c ρ w, (Φ (.panic c) ρ w → Φ (.panic c) [] w))
    (hk : ∀ w' p, OP e fa fb w0 w' v (os.set i.toNat u) → Kp (fun b => v.ownBlock = some b) w w' → w'.heap.size = w.heap.size → VW.Ord P n ds all k Φ 9999 (fun _ => True) π ((L.set i1 true).set i2 true) ((d1, p) :: ρ) w') : VW.Ord P n ds all k Φ 9999 (fun _ => True) ((i1, 1) :: (i2, 0) :: π) L ρ w := by
  obtain ⟨A, c, rfl⟩ := hO.sh
  have hA : ∃ a, A = some a := by
    cases A with
    | some a => exact ⟨a, rfl⟩
    | none =>
      rcases hO.own.2 with ⟨h2, h3⟩ | ⟨g, cap, cur, h2, _⟩
      · omega
      · cases h2
  obtain ⟨a, rfl⟩ := hA
  refine VW.Ord.pure h1 hd1 hg1 hc1 hΦ (fun w => EV.idx ho ht hs hx hy h0 hi) (VW.Ord.effT h2 ?_)
  exact Ops.stP2 (i := i.toNat) ho2 hd2 hg2 hs' rfl (ev_top _ _ _) (hz _) h1a h1b hO (by omega) (fun w' hO' k1 hsz => Ops.nil (W.endl (hk w' _ hO' k1 hsz)))
end
end
end Go.Proofs.YtcmjlmnfdncajaaGreatDoor.VW

namespace Go.Proofs.YtcmjlmnfdncajaaGreatDoor.VW
open Go Go.RowKit
section
variable {α : Type} [Inhabited α]
section
variable {P : Program} [hT : Tab P] {n : Nat} {ds : List Deferred} {Φ : Post} {k : List It} {ρ : E} {w : World} {all : Array Oper} {l : List Oper} {md : Option (List Oper)} {s : Nat} {F : World → Prop} {π : List (Nat × Nat)} {L : List Bool}
theorem x_P2 {fa fb : α → Value} {i1 i2 d1 d2 t t' e : Nat} {o1 o2 : Oper} {x y : Operand} {v : Value} {i : Int} {os : List α} {w0 wr : World} {c1 c2 : Bool}
    (h1 : all[i1]? = some o1 := by exact rfl) (ho : o1.op = .indexAddr t x y := by exact rfl) (hd1 : o1.dst = some d1 := by exact rfl) (hg1 : gdB all ρ o1.guard = some c1 := by exact rfl) (hc1 : c1 = true := by exact rfl)
    (h2 : all[i2]? = some o2 := by exact rfl) (ho2 : o2.op = .load t' (.tmp d1) := by exact rfl) (hd2 : o2.dst = some d2 := by exact rfl) (hg2 : ∀ p, gdB all ((d1, .pointer p) :: ρ) o2.guard = some c2 := by exact fun _ => rfl) (hc2 : c2 = true := by exact rfl)
    (ht : tyD P t = some (.slice e) := by exact rfl) (hs : tyS P e = some 2 := by exact rfl) (ha : tyAgg P t' = some true := by exact rfl) (hs2 : tyS P t' = some 2 := by exact rfl) (hx : ev ρ x = some v := by exact rfl) (hy : ev ρ y = some (.int .i64 i) := by exact rfl) (hO : OP e fa fb w0 wr v os := by assumption) (hF : ∀ w, F w → Below wr.heap.size wr w := by first | exact fun _ h => h | (intro _ h; exact Below.via (by assumption) h)) (h0 : 0 ≤ i := by omega) (hi : i < os.length := by omega)
    (kk : ∀ p, OrdA P n ds all k Φ s F π ((L.set i1 true).set i2 true) ((d2, .agg #[fa (os.getD i.toNat default), fb (os.getD i.toNat default)]) :: (d1, p) :: ρ)) : OrdA P n ds all k Φ s F ((i1, 1) :: (i2, 2) :: π) L ρ :=
  OrdA.rdP2 h1 ho hd1 hg1 hc1 h2 ho2 hd2 hg2 hc2 ht hs ha hs2 hx hy hO hF h0 hi kk
theorem x_P1 {fa fb : α → Value} {i1 i2 d1 d2 t t' e : Nat} {o1 o2 : Oper} {x y : Operand} {v : Value} {i : Nat} {os : List α} {w0 wr : World} {c1 c2 : Bool}
    (h1 : all[i1]? = some o1 := by exact rfl) (ho : o1.op = .indexAddr t x y := by exact rfl) (hd1 : o1.dst = some d1 := by exact rfl) (hg1 : gdB all ρ o1.guard = some c1 := by exact rfl) (hc1 : c1 = true := by exact rfl)
    (h2 : all[i2]? = some o2 := by exact rfl) (ho2 : o2.op = .load t' (.tmp d1) := by exact rfl) (hd2 : o2.dst = some d2 := by exact rfl) (hg2 : ∀ p, gdB all ((d1, .pointer p) :: ρ) o2.guard = some c2 := by exact fun _ => rfl) (hc2 : c2 = true := by exact rfl)
    (ht : tyD P t = some (.slice e) := by exact rfl) (hs : tyS P e = some 2 := by exact rfl) (ha : tyAgg P t' = some true := by exact rfl) (hs2 : tyS P t' = some 2 := by exact rfl) (hx : ev ρ x = some v := by exact rfl) (hy : ev ρ y = some (.int .i64 (i : Int)) := by exact rfl) (hO : OP e fa fb w0 wr v os := by assumption) (hF : ∀ w, F w → Below wr.heap.size wr w := by first | exact fun _ h => h | (intro _ h; exact Below.via (by assumption) h)) (hi : i < os.length := by omega)
    (kk : ∀ p, OrdA P n ds all k Φ s F π ((L.set i1 true).set i2 true) ((d2, .agg #[fa (os.getD i default), fb (os.getD i default)]) :: (d1, p) :: ρ)) : OrdA P n ds all k Φ s F ((i1, 1) :: (i2, 2) :: π) L ρ :=
  OrdA.rdP2 h1 ho hd1 hg1 hc1 h2 ho2 hd2 hg2 hc2 ht hs ha hs2 hx hy hO hF (by omega) (by omega) kk
end
end
end Go.Proofs.YtcmjlmnfdncajaaGreatDoor.VW

namespace Go.Proofs.YtcmjlmnfdncajaaGreatDoor.VW
open Go Go.RowKit
section
variable {α : Type} [Inhabited α]
theorem fp2_snoc {fa fb : α → Value} {z : α} : ∀ os : List α, fp2 fa fb (os ++ [z]) = fp2 fa fb os ++ [fa z, fb z]
  | [] => rfl
  | x :: r => by simp only [List.cons_append, fp2, fp2_snoc r]
section
variable {P : Program} [hT : Tab P] {n : Nat} {ds : List Deferred} {Φ : Post} {k : List It} {ρ : E} {w : World} {all : Array Oper} {l : List Oper} {md : Option (List Oper)}
theorem Ops.bldA2 {o : Oper} {d t e : Nat} {x y : Operand} {u v z0 z1 : Value} (ho : o.op = .build t #[(0, x), (1, y)]) (hd : o.dst = some d) (hg : o.guard = none)
    (ht : tyD P t = some (.array 2 e)) (hs : tyS P e = some 1) (hz : tyZ P t = some (.agg #[z0, z1])) (hx : ev ρ x = some u) (hy : ev ρ y = some v) (h1 : u.oneCell' = true) (h2 : v.oneCell' = true)
    (kk : Ops md P n ds all k Φ l ((d, .agg #[u, v]) :: ρ) w) : Ops md P n ds all k Φ (o :: l) ρ w := by
  refine Ops.valS hd hg (fun a hr => ?_) kk
  have hcs : u.cells = #[u] := by cases u <;> simp_all [Value.oneCell', Value.cells]
  have hcs2 : v.cells = #[v] := by cases v <;> simp_all [Value.oneCell', Value.cells]
  have hzc : (Value.agg #[z0, z1]).cells = #[z0, z1] := rfl
  simp [execOp, ho, hr.ev hx, hr.ev hy, Instr.build, run_zeroV hz, run_und (td_array (tyD_ok ht)), run_sizeOf hs, Instr.fill, hzc, hcs, hcs2]
/-- append(s, [2]..{a, b}) at a row of elements of two cells. -/
theorem Ops.pushP {fa fb : α → Value} {w0 : World} {o1 o2 : Oper} {d1 d2 t e by' : Nat} {x y : Operand} {z : α} {lv z0 z1 : Value} {os : List α}
    (h1 : o1.op = .buildSlice t 1 #[(0, x)]) (hd1 : o1.dst = some d1) (hg1 : o1.guard = none) (h2 : o2.op = .call { callee := .builtin .append, args := #[y, .tmp d1], argTypes := #[t, t] }) (hd2 : o2.dst = some d2) (hg2 : o2.guard = none)
    (ht : tyD P t = some (.slice e)) (hs : tyS P e = some 2) (hb : tyB P e = some (by' + 1)) (hz : tyZ P e = some (.agg #[z0, z1])) (hx : ev ρ x = some (.agg #[fa z, fb z])) (hy : ∀ p, ev ((d1, p) :: ρ) y = some lv) (ha : (fa z).oneCell' = true) (hb1 : (fb z).oneCell' = true)
    (hO : OP e fa fb w0 w lv os) (hbytes : (os.length + 1) * (by' + 1) ≤ 140737488355328)
    (hk : ∀ lv' p w', OP e fa fb w0 w' lv' (os ++ [z]) → Kp (fun i => lv.ownBlock = some i) w w' → (∀ i, lv'.ownBlock = some i → lv.ownBlock = some i ∨ w.heap.size ≤ i) → Ops none P n ds all k Φ l ((d2, lv') :: (d1, p) :: ρ) w') : Ops none P n ds all k Φ (o1 :: o2 :: l) ρ w :=
  Ops.push2 h1 hd1 hg1 h2 hd2 hg2 ht hs hb hz hx hy ha hb1 hO.own hbytes (fun lv' p w' hown k1 hn => hk lv' p w' ⟨Below.put hO.bel k1 (fun i hi => hO.ge i hi), by rw [fp2_snoc, List.length_append, List.length_singleton]; exact hown, fun i hi => by rcases hn i hi with e | e; exact hO.ge i e; have := hO.bel.size; omega⟩ k1 hn)
end
end
end Go.Proofs.YtcmjlmnfdncajaaGreatDoor.VW
/- Strings, as lists of bytes. -/
namespace Go.Proofs.YtcmjlmnfdncajaaGreatDoor.VW
open Go Go.RowKit
abbrev S (l : List UInt8) : Value := .string ⟨l.toArray⟩
theorem ba_eq (a b : List UInt8) : ((⟨a.toArray⟩ : ByteArray) == ⟨b.toArray⟩) = decide (a = b) := by
  rw [Bool.eq_iff_iff]
  show (a.toArray == b.toArray) = true ↔ _
  simp
theorem beq_eq (a b : List UInt8) : (a == b) = decide (a = b) := by rw [Bool.eq_iff_iff]; simp
theorem ba_get (l : List UInt8) (i : Nat) : (⟨l.toArray⟩ : ByteArray)[i]? = l[i]? := by
  by_cases h : i < l.length
  · rw [List.getElem?_eq_getElem h, getElem?_pos (⟨l.toArray⟩ : ByteArray) i (by show i < l.toArray.size; simpa using h)]
    rfl
  · rw [List.getElem?_eq_none (by omega), getElem?_neg]
    show ¬ i < l.toArray.size
    simpa using h
theorem ba_extract (l : List UInt8) (a b : Nat) : (⟨l.toArray⟩ : ByteArray).extract a b = ⟨((l.take b).drop a).toArray⟩ := by
  rw [Lib.extract_eq, List.drop_take]
theorem ba_size (l : List UInt8) : (ByteArray.mk l.toArray).size = l.length := by
  show l.toArray.size = _
  simp
section
variable {P : Program} [hT : Tab P] {n : Nat} {ds : List Deferred} {Φ : Post} {k : List It} {ρ : E} {w : World} {all : Array Oper} {l : List Oper} {md : Option (List Oper)}
theorem EV.slen {o : Oper} {t : Nat} {x : Operand} {s : List UInt8} (ho : o.op = .call { callee := .builtin .len, args := #[x], argTypes := #[t] })
    (ht : tyD P t = some .string) (hx : ev ρ x = some (S s)) : EV P n ρ w o (.int .i64 s.length) := by
  intro a hr
  have hu := td_string (tyD_ok ht)
  simp [execOp, ho, resolve, hr.ev hx, invoke, builtin, Builtin.len_, run_und hu, goInt, ba_size]
theorem EV.sidx {o : Oper} {t : Nat} {x y : Operand} {s : List UInt8} {i : Nat} (ho : o.op = .index t x y)
    (ht : tyD P t = some .string) (hx : ev ρ x = some (S s)) (hy : ev ρ y = some (.int .i64 (i : Int))) (h1 : i < s.length) : EV P n ρ w o (.int .u8 ((s.getD i 0).toNat : Nat)) := by
  intro a hr
  have hu := td_string (tyD_ok ht)
  simp [execOp, ho, hr.ev hx, hr.ev hy, Instr.index, asIntOf, run_und hu, ba_get, h1, List.getD_eq_getElem?_getD]
theorem EV.sto {o : Oper} {t : Nat} {x y : Operand} {s : List UInt8} {i : Nat} (ho : o.op = .slice t x none (some y) none)
    (ht : tyD P t = some .string) (hx : ev ρ x = some (S s)) (hy : ev ρ y = some (.int .i64 (i : Int))) (h1 : i ≤ s.length) : EV P n ρ w o (S (s.take i)) := by
  intro a hr
  have hu := td_string (tyD_ok ht)
  have e1 : i ≤ (ByteArray.mk s.toArray).size := by rw [ba_size]; exact h1
  simp [execOp, ho, hr.ev hx, hr.ev hy, Instr.sliceAt, Instr.slice, Instr.sliceBounds, Instr.sliceBound, asIntOf, run_und hu, e1, ba_extract]
theorem EV.sfrom {o : Oper} {t : Nat} {x y : Operand} {s : List UInt8} {i : Nat} (ho : o.op = .slice t x (some y) none none)
    (ht : tyD P t = some .string) (hx : ev ρ x = some (S s)) (hy : ev ρ y = some (.int .i64 (i : Int))) (h1 : i ≤ s.length) : EV P n ρ w o (S (s.drop i)) := by
  intro a hr
  have hu := td_string (tyD_ok ht)
  have e1 : i ≤ (ByteArray.mk s.toArray).size := by rw [ba_size]; exact h1
  have e2 : s.take ((ByteArray.mk s.toArray).size) = s := by rw [ba_size, List.take_length]
  simp [execOp, ho, hr.ev hx, hr.ev hy, Instr.sliceAt, Instr.slice, Instr.sliceBounds, Instr.sliceBound, asIntOf, run_und hu, e1, ba_extract, e2]
theorem EV.ssub {o : Oper} {t : Nat} {x y z : Operand} {s : List UInt8} {i j : Nat} (ho : o.op = .slice t x (some y) (some z) none)
    (ht : tyD P t = some .string) (hx : ev ρ x = some (S s)) (hy : ev ρ y = some (.int .i64 (i : Int))) (hz : ev ρ z = some (.int .i64 (j : Int))) (h1 : i ≤ j) (h2 : j ≤ s.length) : EV P n ρ w o (S ((s.take j).drop i)) := by
  intro a hr
  have hu := td_string (tyD_ok ht)
  have e1 : j ≤ (ByteArray.mk s.toArray).size := by rw [ba_size]; exact h2
  simp [execOp, ho, hr.ev hx, hr.ev hy, hr.ev hz, Instr.sliceAt, Instr.slice, Instr.sliceBounds, Instr.sliceBound, asIntOf, run_und hu, e1, h1, ba_extract]
theorem EV.seq {o : Oper} {t t' : Nat} {x y : Operand} {s u : List UInt8} (ho : o.op = .binOp .eql t x y t') (ht : tyD P t = some .string) (hx : ev ρ x = some (S s)) (hy : ev ρ y = some (S u)) : EV P n ρ w o (.bool (decide (s = u))) := by
  intro c hr
  have hu := td_string (tyD_ok ht)
  simp only [execOp, ho, hr.ev hx, hr.ev hy]
  have : (Op.stringOp .eql ⟨s.toArray⟩ ⟨u.toArray⟩).run P w = .ok (.bool (decide (s = u))) w := by
    simp [Op.stringOp, Lib.toList_data, beq_eq]
  simp [eqGuard, binOp, this]
theorem EV.sne {o : Oper} {t t' : Nat} {x y : Operand} {s u : List UInt8} (ho : o.op = .binOp .neq t x y t') (ht : tyD P t = some .string) (hx : ev ρ x = some (S s)) (hy : ev ρ y = some (S u)) : EV P n ρ w o (.bool (!decide (s = u))) := by
  intro c hr
  have hu := td_string (tyD_ok ht)
  simp only [execOp, ho, hr.ev hx, hr.ev hy]
  have : (Op.stringOp .neq ⟨s.toArray⟩ ⟨u.toArray⟩).run P w = .ok (.bool (!decide (s = u))) w := by
    simp [Op.stringOp, Lib.toList_data, beq_eq]
  simp [eqGuard, binOp, this]
omit hT in
theorem EV.sadd {o : Oper} {t t' : Nat} {x y : Operand} {s u : List UInt8} (ho : o.op = .binOp .add t x y t') (hx : ev ρ x = some (S s)) (hy : ev ρ y = some (S u)) (hl : s.length + u.length ≤ 9223372036854775807) : EV P n ρ w o (S (s ++ u)) := by
  intro c hr
  simp only [execOp, ho, hr.ev hx, hr.ev hy]
  have h1 := run_string_add_sum (P := P) (w := w) ⟨s.toArray⟩ ⟨u.toArray⟩ (by rw [ba_size, ba_size]; exact hl)
  have e : (⟨s.toArray⟩ : ByteArray) ++ ⟨u.toArray⟩ = ⟨(s ++ u).toArray⟩ := by
    apply ByteArray.ext
    simp
  rw [e] at h1
  simp [eqGuard, binOp, h1]
end
end Go.Proofs.YtcmjlmnfdncajaaGreatDoor.VW
/- Calls that may panic; values of interface type. -/
namespace Go.Proofs.YtcmjlmnfdncajaaGreatDoor.VW
open Go Go.RowKit
def RetP (R : Value → World → Prop) (Q : List PanicEntry → World → Prop) (e : Ending) (w : World) : Prop := (∃ v, e = .returned v ∧ R v w) ∨ ∃ ch, e = .panicked ch ∧ Q ch w
theorem RetP.of {R : Value → World → Prop} {Q : List PanicEntry → World → Prop} {e : Ending} {w : World} (h : Ret R e w) : RetP R Q e w := .inl h
/-- How a function ends that may panic. -/
def FinP (P : Program) (fn : Func) (R : Value → World → Prop) (Q : List PanicEntry → World → Prop) : Post := fun e ρ w => match e with
  | .ret => ∃ v, (∀ a, Rep fn.ntmps a ρ → (results fn a.tmps).run P w = .ok v w) ∧ R v w
  | .normal => ∃ v, (∀ a, Rep fn.ntmps a ρ → (results fn a.tmps).run P w = .ok v w) ∧ R v w
  | .panic ch => Q ch w
  | _ => False
theorem W.fretP {P : Program} {ds : List Deferred} {k : List It} {ρ : E} {w : World} {fn : Func} {R : Value → World → Prop} {Q : List PanicEntry → World → Prop} {vs : List Value}
    (h : resT fn.results.toList ρ = some vs) (hR : R (resV vs) w) : W P fn.ntmps ds (.code .ret :: k) (FinP P fn R Q) ρ w :=
  W.ret ⟨_, fun _ hr => run_results hr h, hR⟩
theorem W.fendP {P : Program} {ds : List Deferred} {ρ : E} {w : World} {fn : Func} {R : Value → World → Prop} {Q : List PanicEntry → World → Prop} {vs : List Value}
    (h : resT fn.results.toList ρ = some vs) (hR : R (resV vs) w) : W P fn.ntmps ds [] (FinP P fn R Q) ρ w :=
  ⟨_, fun _ hr => run_results hr h, hR⟩
theorem calls_WP {P : Program} {f : FuncId} {fn : Func} {c : Code} {vs : List Value} {w : World} {R : Value → World → Prop} {Q : List PanicEntry → World → Prop}
    (hf : P.funcs[f]? = some fn) (hb : fn.body = some c) (hin : inB fn.ntmps c = true) (hs : Nat.ble vs.length fn.ntmps = true)
    (h : W P fn.ntmps [] [.code c] (FinP P fn R Q) (argE vs 0) w) : Calls P f vs.toArray w (RetP R Q) := by
  have hs' : vs.length ≤ fn.ntmps := Nat.le_of_ble_eq_true hs
  refine callsIn_wide.1 (callsIn_of_wp_marks (F := Fence.wide) (n := 0) hf hb trivial (wpIn_wide.2 ?_))
  have hrep : Rep fn.ntmps { tmps := vs.toArray ++ Array.replicate (fn.ntmps - vs.toArray.size) undef, defers := [] } (argE vs 0) := by
    refine ⟨by simp; omega, fun t v hl => ?_⟩
    obtain ⟨_, h2⟩ := look_argE vs 0 t v hl
    have ht : t < vs.length := by
      rw [Nat.sub_zero] at h2
      exact (List.getElem?_eq_some_iff.1 h2).1
    rw [Nat.sub_zero] at h2
    simp [Array.getD_eq_getD_getElem?, Array.getElem?_append, ht, h2]
    rw [List.getElem?_eq_getElem ht] at h2
    simpa using h2
  refine wp_mono (h hin _ hrep rfl) fun e a w' hl => ?_
  obtain ⟨ρ', hr', hl⟩ := hl
  cases e with
  | normal =>
    obtain ⟨hd', hq⟩ := hl
    obtain ⟨v, hv, hR⟩ : ∃ v, (∀ a, Rep fn.ntmps a ρ' → (results fn a.tmps).run P w' = .ok v w') ∧ R v w' := hq
    show LeavesInM _ _ P fn a.tmps _ a.defers .returning w'
    rw [hd']
    exact ⟨v, hv a hr', .inl ⟨v, rfl, hR⟩⟩
  | panic ch =>
    obtain ⟨hd', hq⟩ := hl
    show LeavesInM _ _ P fn a.tmps _ a.defers (.panicking ch) w'
    rw [hd']
    exact .inr ⟨ch, rfl, hq⟩
  | ret =>
    show LeavesInM _ _ P fn a.tmps _ a.defers .returning w'
    obtain ⟨w2, hm, hq⟩ := hl
    obtain ⟨v, hv, hR⟩ : ∃ v, (∀ a, Rep fn.ntmps a ρ' → (results fn a.tmps).run P w2 = .ok v w2) ∧ R v w2 := hq
    have key : ∀ {d ds : List Deferred} {w w2 : World}, Marks d ds w w2 → LeavesInM Fence.wide 0 P fn a.tmps (RetP R Q) ds .returning w2 → LeavesInM Fence.wide 0 P fn a.tmps (RetP R Q) d .returning w := by
      intro d ds w w2 h
      induction h with
      | nil => exact id
      | cons h _ ih => exact fun k => ⟨by simp, .inl ⟨_, _, rfl, run_takeDeferred h, ih k⟩⟩
    exact key hm ⟨v, hv a hr', .inl ⟨v, rfl, hR⟩⟩
  | _ => exact hl.2.elim
section
variable {P : Program} [hT : Tab P] {n : Nat} {ds : List Deferred} {Φ : Post} {k : List It} {ρ : E} {w : World} {all : Array Oper} {l : List Oper} {md : Option (List Oper)}
omit hT in
theorem Ops.enterP {o : Oper} {d : Option Tmp} {f : FuncId} {args : Array Value} {R : Ending → World → Prop} (hg : o.guard = none) (hdst : o.dst = d) (hr : ∀ a, Rep n a ρ → (execOp a.eval o).run P w = .ok (.enter f args) w)
    (hc : Calls P f args w R) (h : ∀ e w', R e w' → (∃ v, e = .returned v ∧ Ops none P n ds all k Φ l (VW.put d v ρ) w') ∨ ∃ ch, e = .panicked ch ∧ Φ (.panic ch) ρ w') : Ops none P n ds all k Φ (o :: l) ρ w := by
  subst hdst
  intro hi a ha hd
  simp only [List.all_cons, Bool.and_eq_true] at hi
  refine wpList_plain hg fun K hK => ?_
  unfold Oper.wp
  rw [hr a ha]
  refine hc.mono fun e w' hR => ?_
  rcases h e w' hR with ⟨v, rfl, hO⟩ | ⟨ch, rfl, hp⟩
  · exact hK _ _ (hO hi.2 _ (ha.put hi.1 v) (by cases hx : o.dst <;> exact hd))
  · exact ⟨ρ, ha, LiftD.mk hd (Qof.pan hp)⟩
omit hT in
/-- A call that may panic. -/
theorem Ops.callP [hF : Fns P] {o : Oper} {c : Call} {d : Option Tmp} {f : Nat} {vs : List Value} {R : Value → World → Prop} {Q : List PanicEntry → World → Prop} (ho : o.op = .call c) (hd : o.dst = d) (hg : o.guard = none) (hv : callV ρ c = some (f, vs)) (hf : memB hF.L f = true)
    (hc : Calls P f vs.toArray w (RetP R Q)) (hk : ∀ v w', R v w' → Ops none P n ds all k Φ l (VW.put d v ρ) w') (hp : ∀ ch w', Q ch w' → Φ (.panic ch) ρ w') : Ops none P n ds all k Φ (o :: l) ρ w :=
  Ops.enterP hg hd (fun _ hr => run_callV ho hv (Fns.call hf) hr) hc fun e w' h => by
    rcases h with ⟨v, he, hR⟩ | ⟨ch, he, hQ⟩
    · exact .inl ⟨v, he, hk v w' hR⟩
    · exact .inr ⟨ch, he, hp ch w' hQ⟩
omit hT in
theorem Ops.pan {o : Oper} {x : Operand} {t : Nat} {v : Value} (ho : o.op = .panic x) (hg : o.guard = none) (hx : ev ρ x = some (.iface t v)) (h : Φ (.panic [{ v := .iface t v, recovered := false }]) ρ w) : Ops none P n ds all k Φ (o :: l) ρ w := by
  intro hi a ha hd
  refine wpList_plain hg fun K hK => ?_
  unfold Oper.wp
  have : (execOp a.eval o).run P w = .halt (.panic (.iface t v)) w := by
    simp only [execOp, ho, ha.ev hx]
    simp [run_panic_iface]
  rw [this]
  exact ⟨ρ, ha, LiftD.mk hd (Qof.pan h)⟩
def noIf : TD → Bool
  | .iface => false
  | _ => true
theorem EV.mkI {o : Oper} {t : Nat} {x : Operand} {v : Value} {d : TD} (ho : o.op = .makeInterface t x) (ht : tyD P t = some d) (hd : noIf d = true) (hx : ev ρ x = some v) : EV P n ρ w o (.iface t v) := by
  intro a hr
  have hu := tyD_ok ht
  unfold tdOf at hu
  simp only [execOp, ho, hr.ev hx]
  cases hP : P.underlying t with
  | none => rw [hP] at hu; simp at hu
  | some u =>
    rw [hP] at hu
    cases u <;> simp at hu <;> first | (subst hu; simp [noIf] at hd; done) | simp [Instr.makeInterface, run_und hP]
/-- v.(T), with ok. -/
theorem EV.asY {o : Oper} {s t : Nat} {x : Operand} {v : Value} {d : TD} (ho : o.op = .typeAssert x s t true) (ht : tyD P t = some d) (hd : noIf d = true) (hx : ev ρ x = some (.iface t v)) : EV P n ρ w o (.tuple #[v, .bool true]) := by
  intro a hr
  have hu := tyD_ok ht
  unfold tdOf at hu
  simp only [execOp, ho, hr.ev hx]
  cases hP : P.underlying t with
  | none => rw [hP] at hu; simp at hu
  | some u =>
    rw [hP] at hu
    cases u <;> simp at hu <;> first | (subst hu; simp [noIf] at hd; done) | simp [Instr.typeAssert, run_und hP]
theorem EV.asN {o : Oper} {s t t' : Nat} {x : Operand} {v z : Value} {d : TD} (ho : o.op = .typeAssert x s t true) (ht : tyD P t = some d) (hd : noIf d = true) (hx : ev ρ x = some (.iface t' v)) (hne : Nat.beq t' t = false) (hz : tyZ P t = some z) : EV P n ρ w o (.tuple #[z, .bool false]) := by
  intro a hr
  have hne' : ¬ t' = t := Nat.ne_of_beq_eq_false hne
  have hu := tyD_ok ht
  unfold tdOf at hu
  simp only [execOp, ho, hr.ev hx]
  cases hP : P.underlying t with
  | none => rw [hP] at hu; simp at hu
  | some u =>
    rw [hP] at hu
    cases u <;> simp at hu <;> first | (subst hu; simp [noIf] at hd; done) | simp [Instr.typeAssert, run_und hP, hne', run_zeroV hz]
/-- A struct of one field of one cell. -/
theorem EV.bld1 {o : Oper} {t : Nat} {x : Operand} {u z0 : Value} (ho : o.op = .build t #[(0, x)])
    (ht : tyD P t = some (.struct [(0, 1)])) (hz : tyZ P t = some (.agg #[z0])) (hx : ev ρ x = some u) (h1 : u.oneCell' = true) : EV P n ρ w o (.agg #[u]) := by
  intro a hr
  obtain ⟨gs, hu, hm⟩ := td_struct (tyD_ok ht)
  have hsz : ∃ f, gs = #[f] ∧ f.offset = 0 ∧ ((P.info? f.type).map (·.size)).getD 0 = 1 := by
    obtain ⟨L⟩ := gs
    rcases L with _ | ⟨f, _ | ⟨h, r⟩⟩
    · simp at hm
    · simp at hm; exact ⟨f, rfl, hm.1, hm.2⟩
    · simp at hm
  obtain ⟨f, rfl, f0, f1⟩ := hsz
  have hs : (sizeOf f.type).run P w = .ok 1 w := by
    cases hi : P.info? f.type with
    | none => rw [hi] at f1; simp at f1
    | some j => rw [hi] at f1; simp at f1; simp [sizeOf, typeInfo, hi, f1]
  have hcs : u.cells = #[u] := by cases u <;> simp_all [Value.oneCell', Value.cells]
  have hzc : (Value.agg #[z0]).cells = #[z0] := rfl
  simp [execOp, ho, hr.ev hx, Instr.build, run_zeroV hz, run_und hu, hs, Instr.fill, hzc, hcs, f0]
end
end Go.Proofs.YtcmjlmnfdncajaaGreatDoor.VW
/- Slices that are read whose elements are a value and a number; values of operations, in short. -/
namespace Go.Proofs.YtcmjlmnfdncajaaGreatDoor.VW
open Go Go.RowKit
/-- It reads as l, and no block of S is read. -/
def R2 (S : Nat → Prop) (w : World) (v : Value) (l : List (Value × Nat)) : Prop := ∃ A c, v = .slice A l.length c ∧ (l.length ≤ c ∧ l.length ≤ 140737488355328) ∧ (0 < l.length → ∃ a : Addr, A = some a ∧ ¬ S a.block ∧ ∀ j, j < l.length → w.cell? (a.add (j * 2)) = some (l.getD j default).1 ∧ w.cell? ((a.add (j * 2)).add 1) = some (.int .i64 ((l.getD j default).2 : Int)))
theorem R2.nil {S : Nat → Prop} {w : World} {A : Option Addr} {c : Nat} : R2 S w (.slice A 0 c) [] := ⟨A, c, rfl, ⟨Nat.zero_le _, Nat.zero_le _⟩, fun h => by simp at h⟩
theorem R2.bd {S : Nat → Prop} {w : World} {v : Value} {l : List (Value × Nat)} (h : R2 S w v l) : l.length ≤ 140737488355328 := by obtain ⟨_, _, _, h, _⟩ := h; exact h.2
theorem R2.sh {S : Nat → Prop} {w : World} {v : Value} {l : List (Value × Nat)} (h : R2 S w v l) : ∃ A c, v = .slice A l.length c := ⟨h.choose, h.choose_spec.choose, h.choose_spec.choose_spec.1⟩
theorem R2.one {S : Nat → Prop} {w : World} {v : Value} {l : List (Value × Nat)} (h : R2 S w v l) : v.oneCell' = true := by obtain ⟨A, c, rfl⟩ := h.sh; rfl
theorem Mk.bel {w w' : World} {r : Nat} {o : Obj} (h : Mk w w' r o) : Below w.heap.size w w' := Below.put (Below.refl _ _) h.kp (fun _ e => e.elim)
theorem add_add (a : Addr) (p q : Nat) : (a.add p).add q = a.add (p + q) := by
  by_cases h1 : p = 0
  · subst h1; simp [Addr.add]
  · by_cases h2 : q = 0
    · subst h2; simp [Addr.add]
    · simp [Addr.add, h1, h2, Nat.add_assoc]
theorem R2.kp {S T : Nat → Prop} {w w' : World} {v : Value} {l : List (Value × Nat)} (h : R2 S w v l) (k : Kp T w w') (hT : ∀ i, T i → S i) : R2 S w' v l := by
  obtain ⟨A, c, rfl, h0, h⟩ := h
  refine ⟨A, c, rfl, h0, fun hp => ?_⟩
  obtain ⟨a, rfl, hS, hc⟩ := h hp
  refine ⟨a, rfl, hS, fun j hj => ?_⟩
  obtain ⟨c1, c2⟩ := hc j hj
  exact ⟨cell_kp k c1 (by rw [add_block]; exact fun e => hS (hT _ e)), cell_kp k c2 (by rw [add_block, add_block]; exact fun e => hS (hT _ e))⟩
theorem R2.below {S : Nat → Prop} {w w' : World} {v : Value} {l : List (Value × Nat)} (h : R2 S w v l) (k : Below w.heap.size w w') : R2 S w' v l := h.kp (Kp.of_below (S := fun _ => False) k) (fun _ e => e.elim)
/-- More blocks: new ones. -/
theorem R2.more {S S' : Nat → Prop} {w : World} {v : Value} {l : List (Value × Nat)} (h : R2 S w v l) (hS : ∀ i, S' i → S i ∨ w.heap.size ≤ i) : R2 S' w v l := by
  obtain ⟨A, c, rfl, h0, h⟩ := h
  refine ⟨A, c, rfl, h0, fun hp => ?_⟩
  obtain ⟨a, rfl, hn, hc⟩ := h hp
  refine ⟨a, rfl, fun e => ?_, hc⟩
  rcases hS _ e with e | e
  · exact hn e
  · have := World.block_lt_of_cell? w _ (hc 0 hp).1
    rw [add_block] at this
    omega
theorem R2.drop {S : Nat → Prop} {w : World} {A A' : Option Addr} {m c c' h : Nat} {l : List (Value × Nat)} (hR : R2 S w (.slice A m c) l) (hc : m - h ≤ c') (ha : h < m → A' = A.map fun p => p.add (h * 2)) : R2 S w (.slice A' (m - h) c') (l.drop h) := by
  obtain ⟨A2, c2, he, h0, hR⟩ := hR
  simp only [Value.slice.injEq] at he
  obtain ⟨rfl, rfl, rfl⟩ := he
  refine ⟨A', c', by rw [List.length_drop], by rw [List.length_drop]; exact ⟨hc, by omega⟩, fun hp => ?_⟩
  rw [List.length_drop] at hp
  obtain ⟨a, rfl, h1, h2⟩ := hR (by omega)
  refine ⟨a.add (h * 2), by rw [ha (by omega)]; rfl, by rw [add_block]; exact h1, fun j hj => ?_⟩
  rw [List.length_drop] at hj
  have := h2 (h + j) (by omega)
  have e : (a.add (h * 2)).add (j * 2) = a.add ((h + j) * 2) := by
    rw [add_add, Nat.add_mul]
  rw [e]
  simpa [List.getD_eq_getElem?_getD] using this
theorem R2.take {S : Nat → Prop} {w : World} {A : Option Addr} {m c h : Nat} {l : List (Value × Nat)} (hR : R2 S w (.slice A m c) l) (hh : h ≤ m) : R2 S w (.slice A h c) (l.take h) := by
  obtain ⟨A2, c2, he, h0, hR⟩ := hR
  simp only [Value.slice.injEq] at he
  obtain ⟨rfl, rfl, rfl⟩ := he
  have hl : (l.take h).length = h := by rw [List.length_take]; omega
  refine ⟨A, c, by rw [hl], by omega, fun hp => ?_⟩
  rw [hl] at hp
  obtain ⟨a, rfl, h1, h2⟩ := hR (by omega)
  refine ⟨a, rfl, h1, fun j hj => ?_⟩
  rw [hl] at hj
  have := h2 j (by omega)
  simpa [List.getD_eq_getElem?_getD, List.getElem?_take, hj] using this
section
variable {P : Program} [hT : Tab P] {n : Nat} {ds : List Deferred} {Φ : Post} {k : List It} {ρ : E} {w : World} {all : Array Oper} {l : List Oper} {md : Option (List Oper)} {s : Nat} {F : World → Prop} {π : List (Nat × Nat)} {L : List Bool}
omit hT in
theorem z_ev {o : Oper} {d : Nat} {v : Value} {c : Bool} (hev : EV P n ρ w o v) (hd : o.dst = some d := by exact rfl) (hg : gdB all ρ o.guard = some c := by exact rfl) (hc : c = true := by exact rfl) (kk : Ops md P n ds all k Φ l ((d, v) :: ρ) w) : Ops md P n ds all k Φ (o :: l) ρ w :=
  Ops.evG hd hg hc hev kk
omit hT in
theorem x_ev {i d : Nat} {o : Oper} {v : Value} {c : Bool} (ho : all[i]? = some o) (hev : ∀ w, EV P n ρ w o v) (hd : o.dst = some d := by exact rfl) (hg : gdB all ρ o.guard = some c := by exact rfl) (hc : c = true := by exact rfl) (kk : OrdA P n ds all k Φ s F π (L.set i true) ((d, v) :: ρ)) : OrdA P n ds all k Φ s F ((i, 1) :: π) L ρ :=
  OrdA.pure ho hd hg hc hev kk
theorem at2 {S : Nat → Prop} {w : World} {v : Value} {xs : List (Value × Nat)} {i : Nat} (hR : R2 S w v xs) (h1 : i < xs.length) : ∃ a c, v = .slice (some a) xs.length c ∧ w.cell? (a.add (i * 2)) = some (xs.getD i default).1 ∧ w.cell? ((a.add (i * 2)).add 1) = some (.int .i64 ((xs.getD i default).2 : Int)) := by
  obtain ⟨A, c, rfl, _, h⟩ := hR
  obtain ⟨a, rfl, _, hc⟩ := h (by omega)
  exact ⟨a, c, rfl, hc i h1⟩
/-- An element, both cells. -/
theorem z_R2 {S : Nat → Prop} {o1 o2 : Oper} {d1 d2 t t' e : Nat} {x y : Operand} {v : Value} {i : Nat} {xs : List (Value × Nat)} {w0 : World} {c1 c2 : Bool}
    (ho : o1.op = .indexAddr t x y := by exact rfl) (hd1 : o1.dst = some d1 := by exact rfl) (hg1 : gdB all ρ o1.guard = some c1 := by exact rfl) (hc1 : c1 = true := by exact rfl)
    (ho2 : o2.op = .load t' (.tmp d1) := by exact rfl) (hd2 : o2.dst = some d2 := by exact rfl) (hg2 : ∀ p, gdB all ((d1, .pointer p) :: ρ) o2.guard = some c2 := by exact fun _ => rfl) (hc2 : c2 = true := by exact rfl)
    (ht : tyD P t = some (.slice e) := by exact rfl) (hs : tyS P e = some 2 := by exact rfl) (ha : tyAgg P t' = some true := by exact rfl) (hs2 : tyS P t' = some 2 := by exact rfl) (hx : ev ρ x = some v := by exact rfl) (hy : ev ρ y = some (.int .i64 (i : Int)) := by exact rfl)
    (hR : R2 S w0 v xs := by assumption) (hb : Below w0.heap.size w0 w := by first | assumption | exact Below.refl _ _) (h1 : i < xs.length := by omega)
    (kk : ∀ p, Ops md P n ds all k Φ l ((d2, .agg #[(xs.getD i default).1, .int .i64 ((xs.getD i default).2 : Int)]) :: (d1, p) :: ρ) w) : Ops md P n ds all k Φ (o1 :: o2 :: l) ρ w := by
  obtain ⟨a, c, rfl, q1, q2⟩ := at2 (hR.below hb) h1
  refine Ops.evG hd1 hg1 hc1 (EV.idx ho ht hs hx hy (by omega) (by omega)) ?_
  exact Ops.evG hd2 (hg2 _) hc2 (EV.ld2 ho2 ha hs2 (ev_top _ _ _) q1 q2) (kk _)
/-- Its first cell; its second one. -/
theorem z_R0 {S : Nat → Prop} {o1 o2 o3 : Oper} {d1 d2 d3 t t' t'' e sz : Nat} {x y : Operand} {v : Value} {i : Nat} {xs : List (Value × Nat)} {w0 : World} {c1 c2 c3 : Bool}
    (ho : o1.op = .indexAddr t x y := by exact rfl) (hd1 : o1.dst = some d1 := by exact rfl) (hg1 : gdB all ρ o1.guard = some c1 := by exact rfl) (hc1 : c1 = true := by exact rfl)
    (ho2 : o2.op = .fieldAddr t'' (.tmp d1) 0 := by exact rfl) (hd2 : o2.dst = some d2 := by exact rfl) (hg2 : ∀ p, gdB all ((d1, .pointer p) :: ρ) o2.guard = some c2 := by exact fun _ => rfl) (hc2 : c2 = true := by exact rfl)
    (ho3 : o3.op = .load t' (.tmp d2) := by exact rfl) (hd3 : o3.dst = some d3 := by exact rfl) (hg3 : ∀ p q, gdB all ((d2, .pointer q) :: (d1, .pointer p) :: ρ) o3.guard = some c3 := by exact fun _ _ => rfl) (hc3 : c3 = true := by exact rfl)
    (ht : tyD P t = some (.slice e) := by exact rfl) (hs : tyS P e = some 2 := by exact rfl) (hf : fieldOff P t'' 0 = some (0, sz + 1) := by exact rfl) (ha : tyAgg P t' = some false := by exact rfl) (hx : ev ρ x = some v := by exact rfl) (hy : ev ρ y = some (.int .i64 (i : Int)) := by exact rfl)
    (hR : R2 S w0 v xs := by assumption) (hb : Below w0.heap.size w0 w := by first | assumption | exact Below.refl _ _) (h1 : i < xs.length := by omega)
    (kk : ∀ p q, Ops md P n ds all k Φ l ((d3, (xs.getD i default).1) :: (d2, q) :: (d1, p) :: ρ) w) : Ops md P n ds all k Φ (o1 :: o2 :: o3 :: l) ρ w := by
  obtain ⟨a, c, rfl, q1, q2⟩ := at2 (hR.below hb) h1
  refine Ops.evG hd1 hg1 hc1 (EV.idx ho ht hs hx hy (by omega) (by omega)) ?_
  refine Ops.evG hd2 (hg2 _) hc2 (EV.fld ho2 hf (ev_top _ _ _)) ?_
  rw [show ∀ p : Addr, p.add 0 = p from fun p => by simp [Addr.add]]
  exact Ops.evG hd3 (hg3 _ _) hc3 (EV.ld ho3 ha (ev_top _ _ _) q1) (kk _ _)
theorem z_R1 {S : Nat → Prop} {o1 o2 o3 : Oper} {d1 d2 d3 t t' t'' e sz : Nat} {x y : Operand} {v : Value} {i : Nat} {xs : List (Value × Nat)} {w0 : World} {c1 c2 c3 : Bool}
    (ho : o1.op = .indexAddr t x y := by exact rfl) (hd1 : o1.dst = some d1 := by exact rfl) (hg1 : gdB all ρ o1.guard = some c1 := by exact rfl) (hc1 : c1 = true := by exact rfl)
    (ho2 : o2.op = .fieldAddr t'' (.tmp d1) 1 := by exact rfl) (hd2 : o2.dst = some d2 := by exact rfl) (hg2 : ∀ p, gdB all ((d1, .pointer p) :: ρ) o2.guard = some c2 := by exact fun _ => rfl) (hc2 : c2 = true := by exact rfl)
    (ho3 : o3.op = .load t' (.tmp d2) := by exact rfl) (hd3 : o3.dst = some d3 := by exact rfl) (hg3 : ∀ p q, gdB all ((d2, .pointer q) :: (d1, .pointer p) :: ρ) o3.guard = some c3 := by exact fun _ _ => rfl) (hc3 : c3 = true := by exact rfl)
    (ht : tyD P t = some (.slice e) := by exact rfl) (hs : tyS P e = some 2 := by exact rfl) (hf : fieldOff P t'' 1 = some (1, sz + 1) := by exact rfl) (ha : tyAgg P t' = some false := by exact rfl) (hx : ev ρ x = some v := by exact rfl) (hy : ev ρ y = some (.int .i64 (i : Int)) := by exact rfl)
    (hR : R2 S w0 v xs := by assumption) (hb : Below w0.heap.size w0 w := by first | assumption | exact Below.refl _ _) (h1 : i < xs.length := by omega)
    (kk : ∀ p q, Ops md P n ds all k Φ l ((d3, .int .i64 ((xs.getD i default).2 : Int)) :: (d2, q) :: (d1, p) :: ρ) w) : Ops md P n ds all k Φ (o1 :: o2 :: o3 :: l) ρ w := by
  obtain ⟨a, c, rfl, q1, q2⟩ := at2 (hR.below hb) h1
  refine Ops.evG hd1 hg1 hc1 (EV.idx ho ht hs hx hy (by omega) (by omega)) ?_
  refine Ops.evG hd2 (hg2 _) hc2 (EV.fld ho2 hf (ev_top _ _ _)) ?_
  exact Ops.evG hd3 (hg3 _ _) hc3 (EV.ld ho3 ha (ev_top _ _ _) q2) (kk _ _)
/-- The same in drawn regions. -/
theorem x_R0 {S : Nat → Prop} {i1 i2 i3 : Nat} {o1 o2 o3 : Oper} {d1 d2 d3 t t' t'' e sz : Nat} {x y : Operand} {v : Value} {i : Nat} {xs : List (Value × Nat)} {w0 : World} {c1 c2 c3 : Bool}
    (h1 : all[i1]? = some o1 := by exact rfl) (ho : o1.op = .indexAddr t x y := by exact rfl) (hd1 : o1.dst = some d1 := by exact rfl) (hg1 : gdB all ρ o1.guard = some c1 := by exact rfl) (hc1 : c1 = true := by exact rfl)
    (h2 : all[i2]? = some o2 := by exact rfl) (ho2 : o2.op = .fieldAddr t'' (.tmp d1) 0 := by exact rfl) (hd2 : o2.dst = some d2 := by exact rfl) (hg2 : ∀ p, gdB all ((d1, .pointer p) :: ρ) o2.guard = some c2 := by exact fun _ => rfl) (hc2 : c2 = true := by exact rfl)
    (h3 : all[i3]? = some o3 := by exact rfl) (ho3 : o3.op = .load t' (.tmp d2) := by exact rfl) (hd3 : o3.dst = some d3 := by exact rfl) (hg3 : ∀ p q, gdB all ((d2, .pointer q) :: (d1, .pointer p) :: ρ) o3.guard = some c3 := by exact fun _ _ => rfl) (hc3 : c3 = true := by exact rfl)
    (ht : tyD P t = some (.slice e) := by exact rfl) (hs : tyS P e = some 2 := by exact rfl) (hf : fieldOff P t'' 0 = some (0, sz + 1) := by exact rfl) (ha : tyAgg P t' = some false := by exact rfl) (hx : ev ρ x = some v := by exact rfl) (hy : ev ρ y = some (.int .i64 (i : Int)) := by exact rfl)
    (hR : R2 S w0 v xs := by assumption) (hF : ∀ w, F w → Below w0.heap.size w0 w := by first | exact fun _ h => h | (intro _ h; exact Below.via (by assumption) h)) (hi : i < xs.length := by omega)
    (kk : ∀ p q, OrdA P n ds all k Φ s F π (((L.set i1 true).set i2 true).set i3 true) ((d3, (xs.getD i default).1) :: (d2, q) :: (d1, p) :: ρ)) : OrdA P n ds all k Φ s F ((i1, 1) :: (i2, 1) :: (i3, 2) :: π) L ρ := by
  obtain ⟨a, c, rfl, q1, q2⟩ := at2 hR hi
  refine OrdA.pure h1 hd1 hg1 hc1 (fun w => EV.idx ho ht hs hx hy (by omega) (by omega)) ?_
  refine OrdA.pure h2 hd2 (hg2 _) hc2 (fun w => EV.fld ho2 hf (ev_top _ _ _)) ?_
  rw [show ∀ p : Addr, p.add 0 = p from fun p => by simp [Addr.add]]
  exact OrdA.read h3 hd3 (hg3 _ _) hc3 (fun w hw => EV.ld ho3 ha (ev_top _ _ _) (cell_kp (Kp.of_below (S := fun _ => False) (hF w hw)) q1 (fun e => e))) (kk _ _)
theorem x_R1 {S : Nat → Prop} {i1 i2 i3 : Nat} {o1 o2 o3 : Oper} {d1 d2 d3 t t' t'' e sz : Nat} {x y : Operand} {v : Value} {i : Nat} {xs : List (Value × Nat)} {w0 : World} {c1 c2 c3 : Bool}
    (h1 : all[i1]? = some o1 := by exact rfl) (ho : o1.op = .indexAddr t x y := by exact rfl) (hd1 : o1.dst = some d1 := by exact rfl) (hg1 : gdB all ρ o1.guard = some c1 := by exact rfl) (hc1 : c1 = true := by exact rfl)
    (h2 : all[i2]? = some o2 := by exact rfl) (ho2 : o2.op = .fieldAddr t'' (.tmp d1) 1 := by exact rfl) (hd2 : o2.dst = some d2 := by exact rfl) (hg2 : ∀ p, gdB all ((d1, .pointer p) :: ρ) o2.guard = some c2 := by exact fun _ => rfl) (hc2 : c2 = true := by exact rfl)
    (h3 : all[i3]? = some o3 := by exact rfl) (ho3 : o3.op = .load t' (.tmp d2) := by exact rfl) (hd3 : o3.dst = some d3 := by exact rfl) (hg3 : ∀ p q, gdB all ((d2, .pointer q) :: (d1, .pointer p) :: ρ) o3.guard = some c3 := by exact fun _ _ => rfl) (hc3 : c3 = true := by exact rfl)
    (ht : tyD P t = some (.slice e) := by exact rfl) (hs : tyS P e = some 2 := by exact rfl) (hf : fieldOff P t'' 1 = some (1, sz + 1) := by exact rfl) (ha : tyAgg P t' = some false := by exact rfl) (hx : ev ρ x = some v := by exact rfl) (hy : ev ρ y = some (.int .i64 (i : Int)) := by exact rfl)
    (hR : R2 S w0 v xs := by assumption) (hF : ∀ w, F w → Below w0.heap.size w0 w := by first | exact fun _ h => h | (intro _ h; exact Below.via (by assumption) h)) (hi : i < xs.length := by omega)
    (kk : ∀ p q, OrdA P n ds all k Φ s F π (((L.set i1 true).set i2 true).set i3 true) ((d3, .int .i64 ((xs.getD i default).2 : Int)) :: (d2, q) :: (d1, p) :: ρ)) : OrdA P n ds all k Φ s F ((i1, 1) :: (i2, 1) :: (i3, 2) :: π) L ρ := by
  obtain ⟨a, c, rfl, q1, q2⟩ := at2 hR hi
  refine OrdA.pure h1 hd1 hg1 hc1 (fun w => EV.idx ho ht hs hx hy (by omega) (by omega)) ?_
  refine OrdA.pure h2 hd2 (hg2 _) hc2 (fun w => EV.fld ho2 hf (ev_top _ _ _)) ?_
  exact OrdA.read h3 hd3 (hg3 _ _) hc3 (fun w hw => EV.ld ho3 ha (ev_top _ _ _) (cell_kp (Kp.of_below (S := fun _ => False) (hF w hw)) q2 (fun e => e))) (kk _ _)
/-- A pointer to a field of an own block, in a drawn region. -/
theorem x_f2 {i d : Nat} {o : Oper} {t j off sz b q : Nat} {x : Operand} {c : Bool} (ho : all[i]? = some o := by exact rfl) (hop : o.op = .fieldAddr t x j := by exact rfl) (hd : o.dst = some d := by exact rfl) (hg : gdB all ρ o.guard = some c := by exact rfl) (hc : c = true := by exact rfl)
    (ht : fieldOff P t j = some (off, sz + 1) := by exact rfl) (hx : ev ρ x = some (.pointer (some ⟨b, q, none⟩)) := by exact rfl) (kk : OrdA P n ds all k Φ s F π (L.set i true) ((d, .pointer (some ⟨b, q + off, none⟩)) :: ρ)) : OrdA P n ds all k Φ s F ((i, 1) :: π) L ρ := by
  refine OrdA.pure ho hd hg hc (fun w => EV.fld hop ht hx) ?_
  rw [add_lit]
  exact kk
end
end Go.Proofs.YtcmjlmnfdncajaaGreatDoor.VW
namespace Go.Proofs.YtcmjlmnfdncajaaGreatDoor
open Go Go.RowKit Go.Proofs.YtcmjlmnfdncajaaGreatDoor.VW
attribute [local irreducible] W Ops OrdA VW.Ord OrdX Wi OpsI OrdF
theorem lit2 {w w' : World} {r : Nat} {x y : Int} (h : Mk w w' r (.cells #[.int .i64 x, .int .i64 y] 3)) : SlI w' (.slice (some ⟨r, 0, none⟩) 2 2) [x, y] := by
  refine ⟨by simp, _, _, rfl, fun _ => ⟨_, rfl, fun j hj => ?_⟩⟩
  rw [add_lit]
  have hB : Blk w' r #[.int .i64 x, .int .i64 y] 3 := h.at_
  match j, hj with
  | 0, _ => exact hB.cell rfl
  | 1, _ => exact hB.cell rfl
theorem own_r {r m k i : Nat} (h : (Value.slice (some ⟨r, 0, none⟩) m k).ownBlock = some i) : i = r := by cases h; rfl
def cmI (x y : Int) : Int := if x < y then -1 else if x > y then 1 else 0
theorem isNaN_c (x : Int) (w : World) : Calls Tryz.prog 126 #[.int .i64 x] w (Ret fun v w' => v = .bool false ∧ w' = w) := by
  refine calls_W (vs := [_]) Tryz.func126 rfl (by kernel_rfl) rfl ?_
  (repeat (first | with_reducible refine W.seq ?_ | with_reducible refine Ops.nil ?_ | with_reducible refine W.region ?_ | refine z_p (kk := ?_)))
  refine W.fret rfl ⟨?_, rfl⟩
  show Value.bool _ = _
  simp
theorem cmp_c (x y : Int) (w : World) : Calls Tryz.prog 109 #[.int .i64 x, .int .i64 y] w (Ret fun v w' => v = .int .i64 (cmI x y) ∧ w' = w) := by
  refine calls_W (vs := [_, _]) Tryz.func109 rfl (by kernel_rfl) rfl ?_
  (repeat (first | with_reducible refine W.seq ?_ | with_reducible refine Ops.nil ?_ | with_reducible refine W.region ?_ | refine z_p (kk := ?_)))
  refine Ops.callS rfl rfl rfl rfl rfl (isNaN_c _ _) ?_
  (repeat (first | with_reducible refine W.seq ?_ | with_reducible refine Ops.nil ?_ | with_reducible refine W.region ?_ | refine z_p (kk := ?_)))
  refine Ops.callS rfl rfl rfl rfl rfl (isNaN_c _ _) ?_
  (repeat (first | with_reducible refine W.seq ?_ | with_reducible refine Ops.nil ?_ | with_reducible refine W.region ?_ | refine z_p (kk := ?_)))
  refine W.condF rfl (by first | rfl | assumption | (simp only [bnf] <;> omega) | (simp only [*, bnf]; done) | fail) ?_
  (repeat (first | with_reducible refine W.seq ?_ | with_reducible refine Ops.nil ?_ | with_reducible refine W.region ?_ | refine z_p (kk := ?_) | with_reducible refine W.skip ?_))
  refine W.condF rfl (by first | rfl | assumption | (simp only [bnf] <;> omega) | (simp only [*, bnf]; done) | fail) ?_
  (repeat (first | with_reducible refine W.seq ?_ | with_reducible refine Ops.nil ?_ | with_reducible refine W.region ?_ | refine z_p (kk := ?_) | with_reducible refine W.skip ?_))
  by_cases h1 : x < y
  · refine W.condT rfl (by first | rfl | assumption | (simp only [bnf] <;> omega) | (simp only [*, bnf]; done) | fail) ?_
    (repeat (first | with_reducible refine W.seq ?_ | with_reducible refine Ops.nil ?_ | with_reducible refine W.region ?_ | refine z_p (kk := ?_)))
    refine W.fret rfl ⟨?_, rfl⟩
    rw [cmI, if_pos h1]; rfl
  · refine W.condF rfl (by first | rfl | assumption | (simp only [bnf] <;> omega) | (simp only [*, bnf]; done) | fail) ?_
    (repeat (first | with_reducible refine W.seq ?_ | with_reducible refine Ops.nil ?_ | with_reducible refine W.region ?_ | refine z_p (kk := ?_) | with_reducible refine W.skip ?_))
    by_cases h2 : x > y
    · refine W.condT rfl (by first | rfl | assumption | (simp only [bnf] <;> omega) | (simp only [*, bnf]; done) | fail) ?_
      (repeat (first | with_reducible refine W.seq ?_ | with_reducible refine Ops.nil ?_ | with_reducible refine W.region ?_ | refine z_p (kk := ?_)))
      refine W.fret rfl ⟨?_, rfl⟩
      rw [cmI, if_neg h1, if_pos h2]; rfl
    · refine W.condF rfl (by first | rfl | assumption | (simp only [bnf] <;> omega) | (simp only [*, bnf]; done) | fail) ?_
      (repeat (first | with_reducible refine W.seq ?_ | with_reducible refine Ops.nil ?_ | with_reducible refine W.region ?_ | refine z_p (kk := ?_) | with_reducible refine W.skip ?_))
      refine W.fret rfl ⟨?_, rfl⟩
      rw [cmI, if_neg h1, if_neg h2]; rfl
/-- cmp.Or of two. -/
theorem or_c {w : World} {v : Value} {x y : Int} (h : SlI w v [x, y]) : Calls Tryz.prog 108 #[v] w (Ret fun r w' => r = .int .i64 (if x ≠ 0 then x else y) ∧ w' = w) := by
  obtain ⟨A, c, rfl⟩ := Sl.shape h
  refine calls_W (vs := [_]) Tryz.func108 rfl (by kernel_rfl) rfl ?_
  (repeat (first | with_reducible refine W.seq ?_ | with_reducible refine Ops.nil ?_ | with_reducible refine W.region ?_ | refine z_p (kk := ?_) | with_reducible refine W.block ?_ | refine z_l (kk := ?_)))
  refine W.loop (fun m ρ w' => ∃ (i : Nat), m = 2 - i ∧ i ≤ 2 ∧ w' = w ∧ (0 < i → x = 0) ∧ (1 < i → y = 0) ∧ ρ = [(3, .int .i64 0), (6, .slice A 2 c), (7, .int .i64 2), (8, .int .i64 i)])
    ⟨_, _, ⟨0, rfl, by omega, rfl, by omega, by omega, rfl⟩, (by repeat (first | exact trivial | refine And.intro rfl ?_))⟩ ?_
  rintro m ρ w' ⟨i, rfl, hi, rfl, h0, h1, rfl⟩
  (repeat (first | with_reducible refine W.seq ?_ | with_reducible refine Ops.nil ?_ | with_reducible refine W.region ?_ | refine z_p (kk := ?_)))
  (first | refine W.condD rfl (fun hc => ?_) (fun hc => ?_) | refine W.condE rfl (fun hc => ?_) (fun hc => ?_) | refine W.condN rfl (fun hc => ?_) (fun hc => ?_) | refine W.cond rfl (fun hc => ?_) (fun hc => ?_))
  · have hl : i < [x, y].length := by simp; omega
    (repeat (first | with_reducible refine W.seq ?_ | with_reducible refine Ops.nil ?_ | with_reducible refine W.region ?_ | refine z_p (kk := ?_) | with_reducible refine W.skip ?_ | with_reducible refine W.block ?_ | refine z_I (kk := fun _ => ?_)))
    have hi2 : i = 0 ∨ i = 1 := by omega
    rcases hi2 with rfl | rfl
    · rw [show ([x, y] : List Int).getD 0 0 = x from rfl]
      by_cases hx : x = 0
      · subst hx
        refine W.condF rfl (by first | rfl | assumption | (simp only [bnf] <;> omega) | (simp only [*, bnf]; done) | fail) ?_
        (repeat (first | with_reducible refine Ops.nil ?_ | with_reducible refine W.region ?_ | refine z_p (kk := ?_) | refine z_a (kk := ?_) | with_reducible refine W.skip ?_ | with_reducible refine W.endb ?_))
        exact W.endl ⟨_, _, ⟨⟨1, rfl, by omega, rfl, fun _ => rfl, by omega, rfl⟩, by omega⟩, (by repeat (first | exact trivial | refine And.intro rfl ?_))⟩
      · refine W.condT rfl (by first | rfl | assumption | (simp only [bnf] <;> omega) | (simp only [*, bnf]; done) | fail) ?_
        (repeat (first | with_reducible refine W.seq ?_ | with_reducible refine Ops.nil ?_ | with_reducible refine W.region ?_ | refine z_p (kk := ?_)))
        refine W.fret rfl ⟨?_, rfl⟩
        rw [if_pos hx]; rfl
    · rw [show ([x, y] : List Int).getD 1 0 = y from rfl]
      have hx := h0 (by omega)
      by_cases hy : y = 0
      · subst hy
        refine W.condF rfl (by first | rfl | assumption | (simp only [bnf] <;> omega) | (simp only [*, bnf]; done) | fail) ?_
        (repeat (first | with_reducible refine Ops.nil ?_ | with_reducible refine W.region ?_ | refine z_p (kk := ?_) | refine z_a (kk := ?_) | with_reducible refine W.skip ?_ | with_reducible refine W.endb ?_))
        exact W.endl ⟨_, _, ⟨⟨2, rfl, by omega, rfl, fun _ => hx, fun _ => rfl, rfl⟩, by omega⟩, (by repeat (first | exact trivial | refine And.intro rfl ?_))⟩
      · refine W.condT rfl (by first | rfl | assumption | (simp only [bnf] <;> omega) | (simp only [*, bnf]; done) | fail) ?_
        (repeat (first | with_reducible refine W.seq ?_ | with_reducible refine Ops.nil ?_ | with_reducible refine W.region ?_ | refine z_p (kk := ?_)))
        refine W.fret rfl ⟨?_, rfl⟩
        rw [if_neg (by omega)]; rfl
  · have hi2 : i = 2 := by omega
    subst hi2
    (repeat (first | with_reducible refine W.seq ?_ | with_reducible refine Ops.nil ?_ | with_reducible refine W.region ?_ | refine z_p (kk := ?_) | refine W.exit rfl ?_))
    refine W.fret rfl ⟨?_, rfl⟩
    rw [if_neg (by have := h0 (by omega); omega), h1 (by omega)]; rfl
theorem within_c (x lo hi : Int) (w : World) : Calls Tryz.prog 63 #[.int .i64 x, .int .i64 lo, .int .i64 hi] w (Ret fun v w' => v = .bool (decide (lo ≤ x ∧ x ≤ hi)) ∧ w' = w) := by
  refine calls_W (vs := [_, _, _]) Tryz.func63 rfl (by kernel_rfl) rfl ?_
  by_cases h : lo ≤ x
  · (repeat (first | with_reducible refine W.seq ?_ | with_reducible refine Ops.nil ?_ | with_reducible refine W.region ?_ | refine z_p (kk := ?_) | refine z_y (kk := ?_) | refine z_h (kk := ?_)))
    exact W.fret rfl ⟨by show Value.bool _ = _; simp [h], rfl⟩
  · (repeat (first | with_reducible refine W.seq ?_ | with_reducible refine Ops.nil ?_ | with_reducible refine W.region ?_ | refine z_p (kk := ?_) | refine z_n (kk := ?_) | refine z_g (kk := ?_)))
    exact W.fret rfl ⟨by show Value.bool _ = _; simp [h], rfl⟩
/-- What is reported by a panic. -/
def trb (e : Int) : List PanicEntry := [{ v := .iface 112 (.agg #[.int .i64 e]), recovered := false }]
theorem demand_c (b : Bool) (e : Int) (w : World) : Calls Tryz.prog 62 #[.bool b, .int .i64 e] w (RetP (fun r w' => b = true ∧ w' = w) (fun ch w' => b = false ∧ w' = w ∧ ch = trb e)) := by
  refine calls_WP (vs := [_, _]) Tryz.func62 rfl (by kernel_rfl) rfl ?_
  (repeat (first | with_reducible refine W.seq ?_ | with_reducible refine Ops.nil ?_ | with_reducible refine W.region ?_ | refine z_p (kk := ?_)))
  cases b with
  | true =>
    refine W.condF rfl (by first | rfl | assumption | (simp only [bnf] <;> omega) | (simp only [*, bnf]; done) | fail) ?_
    (repeat (first | with_reducible refine W.skip ?_))
    exact W.fendP rfl ⟨rfl, rfl⟩
  | false =>
    refine W.condT rfl (by first | rfl | assumption | (simp only [bnf] <;> omega) | (simp only [*, bnf]; done) | fail) ?_
    (repeat (first | with_reducible refine W.region ?_ | refine z_p (kk := ?_) | refine z_ev (EV.mkI rfl rfl rfl rfl) (kk := ?_) | refine z_ev (EV.bld1 rfl rfl rfl rfl rfl) (kk := ?_)))
    exact Ops.pan rfl rfl rfl ⟨rfl, rfl, rfl⟩
end Go.Proofs.YtcmjlmnfdncajaaGreatDoor
/- Plain: ordinals as lists of parts; their order. -/
namespace Go.Proofs.YtcmjlmnfdncajaaGreatDoor.TW
/-- 'cons e c r' is w^e * c + r. -/
inductive Od where
  | nil
  | cons (e : Od) (c : Nat) (r : Od)
def cmpO : Od → Od → Int
  | .nil, .nil => 0
  | .nil, .cons _ _ _ => -1
  | .cons _ _ _, .nil => 1
  | .cons e c r, .cons e' c' r' => if cmpO e e' = 0 then (if c < c' then -1 else if c' < c then 1 else cmpO r r') else cmpO e e'
theorem cmp_rng : ∀ a b, cmpO a b = -1 ∨ cmpO a b = 0 ∨ cmpO a b = 1
  | .nil, .nil => by simp [cmpO]
  | .nil, .cons _ _ _ => by simp [cmpO]
  | .cons _ _ _, .nil => by simp [cmpO]
  | .cons e c r, .cons e' c' r' => by
    have h1 := cmp_rng e e'
    have h2 := cmp_rng r r'
    simp only [cmpO]
    split
    · split
      · simp
      · split
        · simp
        · exact h2
    · exact h1
theorem cmp_self : ∀ a, cmpO a a = 0
  | .nil => rfl
  | .cons e c r => by simp [cmpO, cmp_self e, cmp_self r]
theorem cmp_eq : ∀ a b, cmpO a b = 0 → a = b
  | .nil, .nil, _ => rfl
  | .nil, .cons _ _ _, h => by simp [cmpO] at h
  | .cons _ _ _, .nil, h => by simp [cmpO] at h
  | .cons e c r, .cons e' c' r', h => by
    simp only [cmpO] at h
    split at h
    · rename_i h0
      split at h
      · omega
      · split at h
        · omega
        · rw [cmp_eq e e' h0, cmp_eq r r' h, show c = c' by omega]
    · rename_i h0; exact absurd h h0
theorem cmp_zero {a b : Od} : cmpO a b = 0 ↔ a = b := ⟨cmp_eq a b, fun h => by rw [h]; exact cmp_self b⟩
theorem cmp_swap : ∀ a b, cmpO b a = - cmpO a b
  | .nil, .nil => rfl
  | .nil, .cons _ _ _ => rfl
  | .cons _ _ _, .nil => rfl
  | .cons e c r, .cons e' c' r' => by
    have h1 := cmp_swap e e'
    have h2 := cmp_swap r r'
    simp only [cmpO]
    by_cases h0 : cmpO e e' = 0
    · rw [if_pos h0, if_pos (by omega)]
      by_cases h3 : c < c'
      · rw [if_pos h3, if_neg (by omega), if_pos h3]; rfl
      · rw [if_neg h3]
        by_cases h4 : c' < c
        · rw [if_pos h4, if_pos h4, if_neg h3]
        · rw [if_neg h4, if_neg h4, if_neg h3]; exact h2
    · rw [if_neg h0, if_neg (by omega)]; exact h1
theorem cmp_trans : ∀ a b c, cmpO a b ≤ 0 → cmpO b c ≤ 0 → cmpO a c ≤ 0 ∧ (cmpO a b < 0 ∨ cmpO b c < 0 → cmpO a c < 0)
  | .nil, .nil, .nil, _, _ => by simp [cmpO]
  | .nil, .nil, .cons _ _ _, _, _ => by simp [cmpO]
  | .nil, .cons _ _ _, .nil, _, h => by simp [cmpO] at h
  | .nil, .cons _ _ _, .cons _ _ _, _, _ => by simp [cmpO]
  | .cons _ _ _, .nil, _, h, _ => by simp [cmpO] at h
  | .cons _ _ _, .cons _ _ _, .nil, _, h => by simp [cmpO] at h
  | .cons e c r, .cons e' c' r', .cons e2 c2 r2, h1, h2 => by
    have i1 := cmp_trans e e' e2
    have i2 := cmp_trans r r' r2
    have g1 := cmp_rng e e'
    have g2 := cmp_rng e' e2
    have g3 := cmp_rng e e2
    simp only [cmpO] at h1 h2 ⊢
    by_cases z1 : cmpO e e' = 0
    · have := cmp_eq _ _ z1
      subst this
      by_cases z2 : cmpO e e2 = 0
      · simp only [z1, z2, if_true] at h1 h2 ⊢
        constructor
        · split
          · omega
          · split
            · rename_i a b
              exfalso
              split at h1
              · split at h2 <;> (try split at h2) <;> omega
              · split at h1
                · omega
                · split at h2 <;> (try split at h2) <;> omega
            · rename_i a b
              split at h1
              · split at h2 <;> (try split at h2) <;> omega
              · split at h1
                · omega
                · split at h2 <;> (try split at h2) <;> first | omega | exact (i2 h1 h2).1
        · intro hor
          split
          · omega
          · split
            · rename_i a b
              exfalso
              split at h1
              · split at h2 <;> (try split at h2) <;> omega
              · split at h1
                · omega
                · split at h2 <;> (try split at h2) <;> omega
            · rename_i a b
              split at h1
              · split at h2 <;> (try split at h2) <;> omega
              · split at h1
                · omega
                · rename_i p q
                  split at h2
                  · omega
                  · split at h2
                    · omega
                    · rename_i p2 q2
                      simp only [p, q, p2, q2, if_false] at hor
                      exact (i2 h1 h2).2 hor
      · simp only [z1, z2, if_true, if_false] at h1 h2 ⊢
        omega
    · have hl : cmpO e e' < 0 := by simp only [z1, if_false] at h1; omega
      by_cases z2 : cmpO e' e2 = 0
      · have := cmp_eq _ _ z2
        subst this
        simp only [z1, z2, if_true, if_false] at h1 h2 ⊢
        omega
      · simp only [z1, z2, if_false] at h1 h2 ⊢
        have := (i1 h1 h2).2 (.inl hl)
        rw [if_neg (by omega)]
        omega
def ltO (a b : Od) : Prop := cmpO a b = -1
theorem lt_irr {a : Od} : ¬ ltO a a := fun h => by unfold ltO at h; rw [cmp_self] at h; omega
theorem lt_trans {a b c : Od} (h1 : ltO a b) (h2 : ltO b c) : ltO a c := by
  unfold ltO at *
  have := (cmp_trans a b c (by omega) (by omega)).2 (.inl (by omega))
  have := cmp_rng a c
  omega
theorem gt_lt {a b : Od} : cmpO a b = 1 ↔ ltO b a := by unfold ltO; rw [cmp_swap a b]; omega
theorem tri (a b : Od) : ltO a b ∨ a = b ∨ ltO b a := by
  rcases cmp_rng a b with h | h | h
  · exact .inl h
  · exact .inr (.inl (cmp_eq _ _ h))
  · exact .inr (.inr (gt_lt.1 h))
theorem lt_nil {a : Od} : ¬ ltO a .nil := by cases a <;> simp [ltO, cmpO]
/-- Every part of r has a smaller exponent than e: said of the first one. -/
def HdLt (e : Od) : Od → Prop
  | .nil => True
  | .cons e' _ _ => ltO e' e
/-- Normal: exponents descend, no number is 0. -/
def NF : Od → Prop
  | .nil => True
  | .cons e c r => NF e ∧ 0 < c ∧ NF r ∧ HdLt e r
def addGo (be br : Od) : Od → Nat → Od
  | .nil, k => .cons be k br
  | .cons e c r, k => if cmpO e be = 1 then .cons e c (addGo be br r k) else if cmpO e be = 0 then addGo be br r (k + c) else addGo be br r k
def addO (a : Od) : Od → Od
  | .nil => a
  | .cons be bc br => addGo be br a bc
def szO : Od → Nat
  | .nil => 0
  | .cons e _ r => 1 + szO e + szO r
/-- The greatest number, at the top alone. -/
def topO : Od → Nat
  | .nil => 0
  | .cons _ c r => max c (topO r)
/-- The greatest number. -/
def mostO : Od → Nat
  | .nil => 0
  | .cons e c r => max (max c (mostO e)) (mostO r)
def lenO : Od → Nat
  | .nil => 0
  | .cons _ _ r => lenO r + 1
end Go.Proofs.YtcmjlmnfdncajaaGreatDoor.TW
/- Plain: the sum. -/
namespace Go.Proofs.YtcmjlmnfdncajaaGreatDoor.TW
theorem HdLt.up {e b : Od} (he : ltO e b) : ∀ {r}, HdLt e r → HdLt b r
  | .nil, _ => trivial
  | .cons _ _ _, h => lt_trans h he
theorem addGo_drop {be br : Od} : ∀ {a k}, NF a → HdLt be a → addGo be br a k = .cons be k br
  | .nil, k, _, _ => rfl
  | .cons e c r, k, h, hl => by
    have hl' : cmpO e be = -1 := hl
    simp only [addGo]
    rw [if_neg (by omega), if_neg (by omega)]
    exact addGo_drop h.2.2.1 (h.2.2.2.up hl')
theorem addO_nil (a : Od) : addO .nil a = a := by cases a <;> rfl
theorem addO_nil' (a : Od) : addO a .nil = a := rfl
theorem addO_gt {e r be br : Od} {c bc : Nat} (h : ltO be e) : addO (.cons e c r) (.cons be bc br) = .cons e c (addO r (.cons be bc br)) := by
  have h' := gt_lt.2 h
  simp only [addO, addGo]
  rw [if_pos h']
theorem addO_eq {e r br : Od} {c bc : Nat} (h : NF (.cons e c r)) : addO (.cons e c r) (.cons e bc br) = .cons e (bc + c) br := by
  simp only [addO, addGo]
  rw [if_neg (by rw [cmp_self]; omega), if_pos (cmp_self e)]
  exact addGo_drop h.2.2.1 h.2.2.2
theorem addO_lt {a be br : Od} {bc : Nat} (h : NF a) (hl : HdLt be a) : addO a (.cons be bc br) = .cons be bc br := addGo_drop h hl
theorem addO_hd {e : Od} {a b : Od} (hn : NF a) (ha : HdLt e a) (hb : HdLt e b) : HdLt e (addO a b) := by
  cases a with
  | nil => rw [addO_nil]; exact hb
  | cons ea ca ra =>
    cases b with
    | nil => exact ha
    | cons be bc br =>
      rcases tri be ea with h | h | h
      · rw [addO_gt h]; exact ha
      · subst h; rw [addO_eq hn]; exact ha
      · rw [addO_lt hn h]; exact hb
theorem addO_NF : ∀ {a b : Od}, NF a → NF b → NF (addO a b)
  | .nil, b, _, hb => by rw [addO_nil]; exact hb
  | .cons ea ca ra, .nil, ha, _ => ha
  | .cons ea ca ra, .cons be bc br, ha, hb => by
    rcases tri be ea with h | h | h
    · rw [addO_gt h]
      exact ⟨ha.1, ha.2.1, addO_NF ha.2.2.1 hb, addO_hd ha.2.2.1 ha.2.2.2 h⟩
    · subst h; rw [addO_eq ha]
      exact ⟨ha.1, by have := ha.2.1; omega, hb.2.2.1, hb.2.2.2⟩
    · rw [addO_lt ha h]; exact hb
theorem addO_assoc : ∀ {a b c : Od}, NF a → NF b → NF c → addO (addO a b) c = addO a (addO b c)
  | .nil, b, c, _, _, _ => by rw [addO_nil, addO_nil]
  | .cons ea ca ra, .nil, c, _, _, _ => by rw [addO_nil, addO_nil']
  | .cons ea ca ra, .cons be bc br, .nil, _, _, _ => rfl
  | .cons ea ca ra, .cons be bc br, .cons de dc dr, ha, hb, hc => by
    rcases tri be ea with h | h | h
    · have hn0 : NF (.cons ea ca (addO ra (.cons be bc br))) := ⟨ha.1, ha.2.1, addO_NF ha.2.2.1 hb, addO_hd ha.2.2.1 ha.2.2.2 h⟩
      rw [addO_gt h]
      rcases tri de ea with k | k | k
      · rw [addO_gt k, addO_assoc ha.2.2.1 hb hc]
        rcases tri de be with q | q | q
        · rw [addO_gt q, addO_gt h]
        · subst q; rw [addO_eq hb, addO_gt h]
        · rw [addO_lt hb q, addO_gt k]
      · subst k
        rw [addO_eq hn0, addO_lt hb h, addO_eq ha]
      · rw [addO_lt hn0 k, addO_lt hb (lt_trans h k), addO_lt ha k]
    · subst h
      rw [addO_eq ha]
      have hn : NF (.cons be (bc + ca) br) := ⟨hb.1, by have := hb.2.1; omega, hb.2.2.1, hb.2.2.2⟩
      rcases tri de be with k | k | k
      · rw [addO_gt k, addO_gt k, addO_eq ha]
      · subst k
        rw [addO_eq hn, addO_eq hb, addO_eq ha]; congr 1; omega
      · rw [addO_lt hn k, addO_lt hb k, addO_lt ha k]
    · rw [addO_lt ha h]
      rcases tri de be with k | k | k
      · rw [addO_gt k, addO_lt ha h]
      · subst k
        rw [addO_eq hb, addO_lt ha h]
      · rw [addO_lt hb k, addO_lt ha (lt_trans h k)]
end Go.Proofs.YtcmjlmnfdncajaaGreatDoor.TW
/- Plain: the sum grows; the rest; the blend. -/
namespace Go.Proofs.YtcmjlmnfdncajaaGreatDoor.TW
theorem lt_cons {e e' r r' : Od} {c c' : Nat} : ltO (.cons e c r) (.cons e' c' r') ↔ ltO e e' ∨ (e = e' ∧ (c < c' ∨ (c = c' ∧ ltO r r'))) := by
  unfold ltO
  simp only [cmpO]
  by_cases h0 : cmpO e e' = 0
  · rw [if_pos h0, h0]
    have := cmp_eq _ _ h0
    subst this
    by_cases h1 : c < c'
    · simp [h1]
    · rw [if_neg h1]
      by_cases h2 : c' < c
      · rw [if_pos h2]
        constructor
        · intro h; omega
        · intro h; rcases h with h | ⟨_, h | ⟨h, _⟩⟩ <;> omega
      · rw [if_neg h2]
        have : c = c' := by omega
        subst this
        constructor
        · intro h; exact .inr ⟨rfl, .inr ⟨rfl, h⟩⟩
        · intro h
          rcases h with h | ⟨_, h | ⟨_, h⟩⟩
          · omega
          · omega
          · exact h
  · rw [if_neg h0]
    constructor
    · exact .inl
    · intro h
      rcases h with h | ⟨h, _⟩
      · exact h
      · subst h; exact absurd (cmp_self e) h0
theorem nil_lt {e r : Od} {c : Nat} : ltO .nil (.cons e c r) := rfl
def leO (a b : Od) : Prop := a = b ∨ ltO a b
theorem leO_cmp {a b : Od} : leO a b ↔ cmpO a b ≤ 0 := by
  unfold leO ltO
  have := cmp_rng a b
  rw [← cmp_zero (a := a) (b := b)]
  omega
theorem le_trans' {a b c : Od} (h1 : leO a b) (h2 : leO b c) : leO a c := by
  rw [leO_cmp] at *
  exact (cmp_trans a b c h1 h2).1
theorem lt_le {a b c : Od} (h1 : ltO a b) (h2 : leO b c) : ltO a c := by
  rcases h2 with h | h
  · subst h; exact h1
  · exact lt_trans h1 h
theorem le_lt {a b c : Od} (h1 : leO a b) (h2 : ltO b c) : ltO a c := by
  rcases h1 with h | h
  · subst h; exact h2
  · exact lt_trans h h2
theorem add_lt : ∀ {a b c : Od}, NF a → NF b → NF c → ltO b c → ltO (addO a b) (addO a c)
  | .nil, b, c, _, _, _, h => by rw [addO_nil, addO_nil]; exact h
  | .cons e k r, b, .nil, _, _, _, h => absurd h lt_nil
  | .cons e k r, .nil, .cons ce cc cr, ha, hb, hc, h => by
    rw [addO_nil']
    rcases tri ce e with q | q | q
    · rw [addO_gt q]
      refine lt_cons.2 (.inr ⟨rfl, .inr ⟨rfl, ?_⟩⟩)
      have := add_lt (a := r) (b := .nil) ha.2.2.1 trivial hc h
      rwa [addO_nil'] at this
    · subst q; rw [addO_eq ha]
      exact lt_cons.2 (.inr ⟨rfl, .inl (by have := hc.2.1; omega)⟩)
    · rw [addO_lt ha q]
      exact lt_cons.2 (.inl q)
  | .cons e k r, .cons be bc br, .cons ce cc cr, ha, hb, hc, h => by
    have hbc := lt_cons.1 h
    rcases tri be e with p | p | p
    · rcases tri ce e with q | q | q
      · rw [addO_gt p, addO_gt q]
        exact lt_cons.2 (.inr ⟨rfl, .inr ⟨rfl, add_lt ha.2.2.1 hb hc h⟩⟩)
      · subst q; rw [addO_gt p, addO_eq ha]
        exact lt_cons.2 (.inr ⟨rfl, .inl (by have := hc.2.1; omega)⟩)
      · rw [addO_gt p, addO_lt ha q]
        exact lt_cons.2 (.inl q)
    · subst p
      rcases tri ce be with q | q | q
      · rcases hbc with h | ⟨h, _⟩
        · exact absurd (lt_trans h q) lt_irr
        · subst h; exact absurd q lt_irr
      · subst q
        rw [addO_eq ha, addO_eq ha]
        rcases hbc with h | ⟨_, h | ⟨h, h2⟩⟩
        · exact absurd h lt_irr
        · exact lt_cons.2 (.inr ⟨rfl, .inl (by omega)⟩)
        · exact lt_cons.2 (.inr ⟨rfl, .inr ⟨by omega, h2⟩⟩)
      · rw [addO_eq ha, addO_lt ha q]
        exact lt_cons.2 (.inl q)
    · rw [addO_lt ha p]
      have : ltO e ce := by
        rcases hbc with h | ⟨h, _⟩
        · exact lt_trans p h
        · subst h; exact p
      rw [addO_lt ha this]
      exact h
theorem add_cmp {a b c : Od} (ha : NF a) (hb : NF b) (hc : NF c) : cmpO (addO a b) (addO a c) = cmpO b c := by
  rcases tri b c with h | h | h
  · have h2 := add_lt ha hb hc h
    unfold ltO at h h2; omega
  · subst h; rw [cmp_self, cmp_self]
  · have h2 := gt_lt.2 (add_lt ha hc hb h)
    have h3 := gt_lt.2 h
    omega
theorem le_add_l {a b : Od} (ha : NF a) (hb : NF b) : leO a (addO a b) := by
  cases b with
  | nil => exact .inl rfl
  | cons e c r =>
    right
    have := add_lt (b := .nil) ha trivial hb nil_lt
    rwa [addO_nil'] at this
theorem le_add_r {a b : Od} (ha : NF a) (hb : NF b) : leO b (addO a b) := by
  cases a with
  | nil => rw [addO_nil]; exact .inl rfl
  | cons e c r =>
    cases b with
    | nil => exact .inr nil_lt
    | cons be bc br =>
      rcases tri be e with h | h | h
      · rw [addO_gt h]; exact .inr (lt_cons.2 (.inl h))
      · subst h; rw [addO_eq ha]
        exact .inr (lt_cons.2 (.inr ⟨rfl, .inl (by have := ha.2.1; omega)⟩))
      · rw [addO_lt ha h]; exact .inl rfl
/-- What must be added: none: there is nothing. -/
def restO : Od → Od → Option Od
  | .nil, b => some b
  | .cons _ _ _, .nil => none
  | .cons ae ac ar, .cons be bc br => if cmpO ae be < 0 then some (.cons be bc br) else if cmpO ae be = 0 ∧ ac ≤ bc then (if ac < bc then some (.cons be (bc - ac) br) else restO ar br) else none
theorem rest_add : ∀ {a b : Od}, NF a → NF b → restO a (addO a b) = some b
  | .nil, b, _, _ => by rw [addO_nil]; rfl
  | .cons e c r, .nil, ha, _ => by
    rw [addO_nil']
    have ih := rest_add (a := r) (b := .nil) ha.2.2.1 trivial
    rw [addO_nil'] at ih
    simp only [restO, cmp_self]
    simp [ih]
  | .cons e c r, .cons be bc br, ha, hb => by
    rcases tri be e with h | h | h
    · rw [addO_gt h]
      simp only [restO, cmp_self]
      simp [rest_add ha.2.2.1 hb]
    · subst h
      rw [addO_eq ha]
      simp only [restO, cmp_self]
      have := hb.2.1
      simp [this]
    · rw [addO_lt ha h]
      have h' : cmpO e be = -1 := h
      simp [restO, h']
/-- The reference's: the same parts are left out first. -/
def restG : Od → Od → Od
  | .cons ae ac ar, .cons be bc br => if cmpO ae be = 0 then (if ac = bc then restG ar br else .cons be (bc - ac) br) else .cons be bc br
  | _, b => b
theorem rest_ref : ∀ (a b : Od), restO a b = if cmpO a b > 0 then none else some (restG a b)
  | .nil, .nil => rfl
  | .nil, .cons _ _ _ => rfl
  | .cons _ _ _, .nil => rfl
  | .cons ae ac ar, .cons be bc br => by
    have h1 := cmp_rng ae be
    have hc : cmpO (.cons ae ac ar) (.cons be bc br) = if cmpO ae be = 0 then (if ac < bc then -1 else if bc < ac then 1 else cmpO ar br) else cmpO ae be := rfl
    have ih := rest_ref ar br
    generalize cmpO (.cons ae ac ar) (.cons be bc br) = z at *
    simp only [restO, restG]
    by_cases h0 : cmpO ae be = 0
    · rw [if_pos h0] at hc
      rw [if_neg (show ¬ cmpO ae be < 0 by omega), if_pos h0]
      by_cases h2 : ac < bc
      · rw [if_pos h2] at hc
        rw [if_pos ⟨h0, by omega⟩, if_pos h2, if_neg (show ¬ z > 0 by omega), if_neg (show ¬ ac = bc by omega)]
      · rw [if_neg h2] at hc
        by_cases h3 : bc < ac
        · rw [if_pos h3] at hc
          rw [if_neg (show ¬ (cmpO ae be = 0 ∧ ac ≤ bc) by omega), if_pos (show z > 0 by omega)]
        · rw [if_neg h3] at hc
          rw [if_pos ⟨h0, by omega⟩, if_neg h2, ih, hc, if_pos (show ac = bc by omega)]
    · rw [if_neg h0] at hc
      rw [if_neg h0]
      by_cases h2 : cmpO ae be < 0
      · rw [if_pos h2, if_neg (show ¬ z > 0 by omega)]
      · rw [if_neg h2, if_neg (show ¬ (cmpO ae be = 0 ∧ ac ≤ bc) by omega), if_pos (show z > 0 by omega)]
/-- The blend: the greatest part first. -/
def blIn (ae : Od) (ac : Nat) (f : Od → Od) (a : Od) : Od → Od
  | .nil => a
  | .cons be bc br => if cmpO ae be = 1 then .cons ae ac (f (.cons be bc br)) else if cmpO ae be = -1 then .cons be bc (blIn ae ac f a br) else .cons ae (ac + bc) (f br)
def blO : Od → Od → Od
  | .nil, b => b
  | .cons ae ac ar, b => blIn ae ac (blO ar) (.cons ae ac ar) b
theorem blO_nil (a : Od) : blO a .nil = a := by cases a <;> rfl
theorem blO_cons {ae ar be br : Od} {ac bc : Nat} : blO (.cons ae ac ar) (.cons be bc br) = if cmpO ae be = 1 then .cons ae ac (blO ar (.cons be bc br)) else if cmpO ae be = -1 then .cons be bc (blO (.cons ae ac ar) br) else .cons ae (ac + bc) (blO ar br) := rfl
theorem bl_comm : ∀ (a b : Od), blO a b = blO b a
  | .nil, b => by rw [blO_nil]; rfl
  | .cons ae ac ar, .nil => by rw [blO_nil]; rfl
  | .cons ae ac ar, .cons be bc br => by
    rw [blO_cons, blO_cons, cmp_swap ae be]
    rcases cmp_rng ae be with h | h | h
    · rw [h, if_neg (by omega), if_pos rfl, if_pos (by omega), bl_comm (.cons ae ac ar) br]
    · rw [h, if_neg (by omega), if_neg (by omega), if_neg (by omega), if_neg (by omega), bl_comm ar br, cmp_eq _ _ h, Nat.add_comm]
    · rw [h, if_pos rfl, if_neg (by omega), if_pos (by omega), bl_comm ar (.cons be bc br)]
  termination_by a b => SizeOf.sizeOf a + SizeOf.sizeOf b
theorem bl_hd {e : Od} {a b : Od} (ha : HdLt e a) (hb : HdLt e b) : HdLt e (blO a b) := by
  cases a with
  | nil => exact hb
  | cons ae ac ar =>
    cases b with
    | nil => exact ha
    | cons be bc br =>
      rw [blO_cons]
      split
      · exact ha
      · split
        · exact hb
        · exact ha
theorem bl_NF : ∀ {a b : Od}, NF a → NF b → NF (blO a b)
  | .nil, b, _, hb => hb
  | .cons ae ac ar, .nil, ha, _ => ha
  | .cons ae ac ar, .cons be bc br, ha, hb => by
    rw [blO_cons]
    rcases tri ae be with h | h | h
    · have h' : cmpO ae be = -1 := h
      rw [if_neg (by omega), if_pos h']
      exact ⟨hb.1, hb.2.1, bl_NF ha hb.2.2.1, bl_hd h hb.2.2.2⟩
    · subst h
      rw [cmp_self, if_neg (by omega), if_neg (by omega)]
      exact ⟨ha.1, by have := ha.2.1; omega, bl_NF ha.2.2.1 hb.2.2.1, bl_hd ha.2.2.2 hb.2.2.2⟩
    · rw [if_pos (gt_lt.2 h)]
      exact ⟨ha.1, ha.2.1, bl_NF ha.2.2.1 hb, bl_hd ha.2.2.2 h⟩
  termination_by a b => SizeOf.sizeOf a + SizeOf.sizeOf b
/-- The blend is at least each of both. -/
theorem le_bl : ∀ {a b : Od}, NF a → NF b → leO b (blO a b)
  | .nil, b, _, _ => .inl rfl
  | .cons ae ac ar, .nil, _, _ => .inr nil_lt
  | .cons ae ac ar, .cons be bc br, ha, hb => by
    rw [blO_cons]
    rcases tri ae be with h | h | h
    · have h' : cmpO ae be = -1 := h
      rw [if_neg (by omega), if_pos h']
      rcases le_bl ha hb.2.2.1 with q | q
      · left; rw [← q]
      · right; exact lt_cons.2 (.inr ⟨rfl, .inr ⟨rfl, q⟩⟩)
    · subst h
      rw [cmp_self, if_neg (by omega), if_neg (by omega)]
      right
      exact lt_cons.2 (.inr ⟨rfl, .inl (by have := ha.2.1; omega)⟩)
    · rw [if_pos (gt_lt.2 h)]
      right; exact lt_cons.2 (.inl h)
  termination_by a b => SizeOf.sizeOf a + SizeOf.sizeOf b
theorem sum_le_bl : ∀ {a b : Od}, NF a → NF b → leO (addO a b) (blO a b)
  | .nil, b, _, _ => by rw [addO_nil]; exact .inl rfl
  | .cons ae ac ar, .nil, _, _ => .inl rfl
  | .cons ae ac ar, .cons be bc br, ha, hb => by
    rcases tri be ae with h | h | h
    · rw [addO_gt h, blO_cons, if_pos (gt_lt.2 h)]
      rcases sum_le_bl ha.2.2.1 hb with q | q
      · left; rw [q]
      · right; exact lt_cons.2 (.inr ⟨rfl, .inr ⟨rfl, q⟩⟩)
    · subst h
      rw [addO_eq ha, blO_cons, cmp_self, if_neg (by omega), if_neg (by omega)]
      rcases le_bl ha.2.2.1 hb.2.2.1 with q | q
      · left; rw [← q, Nat.add_comm]
      · right; exact lt_cons.2 (.inr ⟨rfl, .inr ⟨by omega, q⟩⟩)
    · rw [addO_lt ha h]
      exact le_bl ha hb
end Go.Proofs.YtcmjlmnfdncajaaGreatDoor.TW
/- Plain: the product. -/
namespace Go.Proofs.YtcmjlmnfdncajaaGreatDoor.TW
def mulO : Od → Od → Od
  | .nil, _ => .nil
  | .cons _ _ _, .nil => .nil
  | .cons ae ac ar, .cons .nil bc _ => .cons ae (ac * bc) ar
  | .cons ae ac ar, .cons be bc br => .cons (addO ae be) bc (mulO (.cons ae ac ar) br)
theorem mul_nil' (a : Od) : mulO a .nil = .nil := by cases a <;> rfl
theorem nil_mul (a : Od) : mulO .nil a = .nil := by cases a <;> rfl
theorem mul_fin {ae ar br : Od} {ac bc : Nat} : mulO (.cons ae ac ar) (.cons .nil bc br) = .cons ae (ac * bc) ar := rfl
theorem mul_inf {ae ar be br : Od} {ac bc : Nat} (h : be ≠ .nil) : mulO (.cons ae ac ar) (.cons be bc br) = .cons (addO ae be) bc (mulO (.cons ae ac ar) br) := by
  cases be with
  | nil => exact absurd rfl h
  | cons _ _ _ => rfl
theorem hd_nil {r : Od} (h : HdLt .nil r) : r = .nil := by
  cases r with
  | nil => rfl
  | cons e c r => exact absurd h lt_nil
theorem lt_ne_nil {a b : Od} (h : ltO a b) : b ≠ .nil := fun e => by subst e; exact lt_nil h
theorem add_ne_nil {a b : Od} (h : b ≠ .nil) : addO a b ≠ .nil := by
  cases b with
  | nil => exact absurd rfl h
  | cons be bc br =>
    have : ∀ (a : Od) k, addGo be br a k ≠ .nil := fun a => by
      induction a with
      | nil => intro k e; simp [addGo] at e
      | cons e c r _ ih =>
        intro k
        simp only [addGo]
        split
        · simp
        · split
          · exact ih _
          · exact ih _
    exact this a bc
theorem mul_hd {e ae ar : Od} {ac : Nat} (ha : NF (.cons ae ac ar)) : ∀ {b : Od}, NF b → HdLt e b → NF e → HdLt (addO ae e) (mulO (.cons ae ac ar) b)
  | .nil, _, _, _ => trivial
  | .cons .nil bc br, hb, hl, he => by
    rw [mul_fin]
    have := add_lt (b := .nil) ha.1 trivial he hl
    rwa [addO_nil'] at this
  | .cons (.cons x y z) bc br, hb, hl, he => by
    rw [mul_inf (by simp)]
    exact add_lt ha.1 hb.1 he hl
theorem mul_NF {ae ar : Od} {ac : Nat} (ha : NF (.cons ae ac ar)) : ∀ {b : Od}, NF b → NF (mulO (.cons ae ac ar) b)
  | .nil, _ => trivial
  | .cons .nil bc br, hb => ⟨ha.1, Nat.mul_pos ha.2.1 hb.2.1, ha.2.2.1, ha.2.2.2⟩
  | .cons (.cons x y z) bc br, hb => by
    rw [mul_inf (by simp)]
    exact ⟨addO_NF ha.1 hb.1, hb.2.1, mul_NF ha hb.2.2.1, mul_hd ha hb.2.2.1 hb.2.2.2 hb.1⟩
theorem mul_add {a : Od} (ha : NF a) : ∀ {b c : Od}, NF b → NF c → mulO a (addO b c) = addO (mulO a b) (mulO a c) := by
  cases a with
  | nil => intro b c _ _; rw [nil_mul, nil_mul, nil_mul]; rfl
  | cons ae ac ar =>
    intro b
    induction b with
    | nil => intro c _ _; rw [addO_nil, mul_nil', addO_nil]
    | cons be bc br _ ih =>
      intro c hb hc
      cases c with
      | nil => rw [mul_nil', addO_nil', addO_nil']
      | cons ce cc cr =>
        rcases tri ce be with h | h | h
        · have hne := lt_ne_nil h
          rw [addO_gt h, mul_inf hne, mul_inf hne, ih hb.2.2.1 hc]
          have hl := add_lt ha.1 hc.1 hb.1 h
          by_cases hce : ce = .nil
          · subst hce
            rw [mul_fin]
            rw [addO_nil'] at hl
            rw [addO_gt hl]
          · rw [mul_inf hce, addO_gt hl]
        · subst h
          rw [addO_eq hb]
          by_cases hce : ce = .nil
          · subst hce
            have e1 := hd_nil hc.2.2.2
            subst e1
            rw [mul_fin, mul_fin, mul_fin, addO_eq ⟨ha.1, Nat.mul_pos ha.2.1 hb.2.1, ha.2.2.1, ha.2.2.2⟩, Nat.mul_add]
          · rw [mul_inf hce, mul_inf hce, mul_inf hce, addO_eq]
            exact ⟨addO_NF ha.1 hb.1, hb.2.1, mul_NF ha hb.2.2.1, mul_hd ha hb.2.2.1 hb.2.2.2 hb.1⟩
        · have hne := lt_ne_nil h
          rw [addO_lt hb h]
          have hn := mul_NF ha hb
          have hh := mul_hd (e := ce) ha hb h hc.1
          rw [mul_inf (br := cr) hne, addO_lt hn hh]
theorem mul_assoc {a b : Od} (ha : NF a) (hb : NF b) : ∀ {c : Od}, NF c → mulO (mulO a b) c = mulO a (mulO b c) := by
  cases a with
  | nil => intro c _; rw [nil_mul, nil_mul, nil_mul]
  | cons ae ac ar =>
    cases b with
    | nil => intro c _; rw [mul_nil']; cases c <;> rfl
    | cons be bc br =>
      have hM : ∃ k Y, mulO (.cons ae ac ar) (.cons be bc br) = .cons (addO ae be) k Y ∧ (∀ cc, mulO (.cons ae ac ar) (.cons be (bc * cc) br) = .cons (addO ae be) (k * cc) Y) := by
        by_cases hbe : be = .nil
        · subst hbe
          exact ⟨_, _, rfl, fun cc => by rw [mul_fin, addO_nil', Nat.mul_assoc]⟩
        · exact ⟨_, _, mul_inf hbe, fun cc => mul_inf hbe⟩
      obtain ⟨k, Y, e1, e2⟩ := hM
      intro c
      induction c with
      | nil => intro _; rw [mul_nil', mul_nil', mul_nil']
      | cons ce cc cr _ ih =>
        intro hc
        by_cases hce : ce = .nil
        · subst hce
          rw [mul_fin, e2, e1, mul_fin]
        · rw [e1] at ih ⊢
          rw [mul_inf hce, mul_inf hce, mul_inf (add_ne_nil hce), ← ih hc.2.2.1, addO_assoc ha.1 hb.1 hc.1]
def oneO : Od := .cons .nil 1 .nil
theorem mul_one {a : Od} : mulO a oneO = a := by
  cases a with
  | nil => rfl
  | cons e c r => show Od.cons e (c * 1) r = _; rw [Nat.mul_one]
theorem one_mul : ∀ {b : Od}, NF b → mulO oneO b = b
  | .nil, _ => rfl
  | .cons .nil bc br, hb => by
    rw [hd_nil hb.2.2.2]
    show Od.cons .nil (1 * bc) .nil = _
    rw [Nat.one_mul]
  | .cons (.cons x y z) bc br, hb => by
    have : mulO oneO (.cons (.cons x y z) bc br) = .cons (addO .nil (.cons x y z)) bc (mulO oneO br) := rfl
    rw [this, addO_nil, one_mul hb.2.2.1]
/- Sizes. -/
theorem most_top : ∀ (a : Od), topO a ≤ mostO a
  | .nil => Nat.le_refl _
  | .cons e c r => by have := most_top r; simp only [topO, mostO]; omega
/-- The greatest number of the exponents. -/
def exM : Od → Nat
  | .nil => 0
  | .cons e _ r => max (mostO e) (exM r)
theorem most_eq : ∀ (a : Od), mostO a = max (topO a) (exM a)
  | .nil => rfl
  | .cons e c r => by have := most_eq r; simp only [topO, mostO, exM]; omega
theorem addGo_sizes {be br : Od} : ∀ (a : Od) (k : Nat), szO (addGo be br a k) ≤ szO a + (1 + szO be + szO br) ∧ 1 + szO be + szO br ≤ szO (addGo be br a k) ∧ max k (topO br) ≤ topO (addGo be br a k) ∧ max (mostO be) (exM br) ≤ exM (addGo be br a k) ∧ exM (addGo be br a k) ≤ max (exM a) (max (mostO be) (exM br))
  | .nil, k => by simp [addGo, szO, topO, exM]
  | .cons e c r, k => by
    simp only [addGo, szO, topO, exM]
    split
    · have := addGo_sizes (be := be) (br := br) r k
      simp only [szO, topO, exM]
      omega
    · split
      · have := addGo_sizes (be := be) (br := br) r (k + c)
        omega
      · have := addGo_sizes (be := be) (br := br) r k
        omega
theorem add_sizes (a b : Od) : szO (addO a b) ≤ szO a + szO b ∧ szO b ≤ szO (addO a b) ∧ topO b ≤ topO (addO a b) ∧ exM b ≤ exM (addO a b) ∧ exM (addO a b) ≤ max (exM a) (exM b) := by
  cases b with
  | nil => simp [addO, szO, topO, exM]
  | cons be bc br =>
    have := addGo_sizes (be := be) (br := br) a bc
    simp only [addO, szO, topO, exM]
    omega
/-- Too large: as it is looked at where sums are made, and as the document says. -/
def bigT (a : Od) : Bool := decide (1000 < topO a ∨ 60 < szO a)
def bigO (a : Od) : Bool := decide (60 < szO a ∨ 1000 < mostO a)
theorem big_eq {a : Od} (h : exM a ≤ 1000) : bigO a = bigT a := by
  unfold bigO bigT
  have := most_eq a
  exact decide_eq_decide.2 (by omega)
def chk (a : Od) : Option Od := if bigT a = true then none else some a
def addC (a b : Od) : Option Od := match b with
  | .nil => some a
  | b => chk (addO a b)
theorem addC_cons {a be br : Od} {bc : Nat} : addC a (.cons be bc br) = chk (addO a (.cons be bc br)) := rfl
/-- As the program multiplies. -/
def stL (ae : Od) (ac : Nat) (ar acc : Od) : Od → Nat → Option Od
  | .nil, bc => (chk (.cons ae (ac * bc) ar)).bind (addC acc)
  | be, bc => (addC ae be).bind fun e => addC acc (.cons e bc .nil)
def prodL (ae : Od) (ac : Nat) (ar : Od) : Od → Od → Option Od
  | acc, .nil => some acc
  | acc, .cons be bc br => match stL ae ac ar acc be bc with
    | none => none
    | some acc' => prodL ae ac ar acc' br
/-- As the reference does. -/
def nxtR (ae : Od) (ac : Nat) (ar : Od) (be : Od) (bc : Nat) : Od := match be with
  | .nil => .cons ae (ac * bc) ar
  | be => .cons (addO ae be) bc .nil
def prodR (ae : Od) (ac : Nat) (ar : Od) : Od → Od → Option Od
  | acc, .nil => some acc
  | acc, .cons be bc br => if bigO (addO acc (nxtR ae ac ar be bc)) = true then none else prodR ae ac ar (addO acc (nxtR ae ac ar be bc)) br
def okS (a : Od) : Prop := mostO a ≤ 1000 ∧ szO a ≤ 60
theorem prod_eq {ae ar : Od} {ac : Nat} (ha : okS (.cons ae ac ar)) : ∀ (b acc : Od), mostO b ≤ 1000 → exM acc ≤ 1000 → prodL ae ac ar acc b = prodR ae ac ar acc b
  | .nil, acc, _, _ => rfl
  | .cons be bc br, acc, hb, hx => by
    obtain ⟨ha1, ha2⟩ := ha
    simp only [mostO, szO] at ha1 ha2 hb
    have mae := most_top ar
    have mx := most_eq ar
    have mxe := most_eq ae
    have mxb := most_eq be
    have key : stL ae ac ar acc be bc = if bigO (addO acc (nxtR ae ac ar be bc)) = true then none else some (addO acc (nxtR ae ac ar be bc)) := by
      have chkY : ∀ {x : Od}, bigT x = true → chk x = none := fun {x} h => if_pos h
      have chkN : ∀ {x : Od}, ¬ bigT x = true → chk x = some x := fun {x} h => if_neg h
      cases be with
      | nil =>
        show (chk (.cons ae (ac * bc) ar)).bind (addC acc) = _
        have hN : nxtR ae ac ar .nil bc = .cons ae (ac * bc) ar := rfl
        rw [hN]
        generalize ac * bc = q at *
        have hs := add_sizes acc (.cons ae q ar)
        simp only [szO, topO, exM] at hs
        rw [big_eq (by omega)]
        by_cases h1 : bigT (.cons ae q ar) = true
        · have h2 : bigT (addO acc (.cons ae q ar)) = true := by
            have h1' : 1000 < topO (.cons ae q ar) ∨ 60 < szO (.cons ae q ar) := of_decide_eq_true h1
            simp only [topO, szO] at h1'
            simp only [bigT, decide_eq_true_eq]
            omega
          rw [if_pos h2, chkY h1]; rfl
        · rw [chkN h1, Option.bind_some, addC_cons]; rfl
      | cons x y z =>
        show (addC ae (.cons x y z)).bind (fun e => addC acc (.cons e bc .nil)) = _
        have hN : nxtR ae ac ar (.cons x y z) bc = .cons (addO ae (.cons x y z)) bc .nil := rfl
        rw [hN, addC_cons]
        have h0 := add_sizes ae (.cons x y z)
        generalize addO ae (.cons x y z) = u at *
        have hs := add_sizes acc (.cons u bc .nil)
        have mxs := most_eq u
        simp only [szO, topO, exM] at hs
        by_cases h1 : bigT u = true
        · have h2 : bigO (addO acc (.cons u bc .nil)) = true := by
            have mxo := most_eq (addO acc (.cons u bc .nil))
            simp only [bigO, bigT, decide_eq_true_eq] at h1 ⊢
            omega
          rw [chkY h1, if_pos h2]; rfl
        · have h3 : exM (addO acc (.cons u bc .nil)) ≤ 1000 := by
            simp only [bigT, decide_eq_true_eq] at h1
            omega
          rw [big_eq h3, chkN h1, Option.bind_some, addC_cons]; rfl
    simp only [prodL, prodR]
    rw [key]
    by_cases h : bigO (addO acc (nxtR ae ac ar be bc)) = true
    · rw [if_pos h, if_pos h]
    · rw [if_neg h, if_neg h]
      refine prod_eq ⟨by simp only [mostO]; omega, by simp only [szO]; omega⟩ br _ (by omega) ?_
      have := most_eq (addO acc (nxtR ae ac ar be bc))
      simp only [bigO, decide_eq_true_eq] at h
      omega
/-- What the program gives is the product. -/
theorem prod_mul {ae ar : Od} {ac : Nat} (ha : NF (.cons ae ac ar)) : ∀ (b acc r : Od), NF b → NF acc → prodL ae ac ar acc b = some r → r = addO acc (mulO (.cons ae ac ar) b)
  | .nil, acc, r, _, _, h => by
    simp only [prodL, Option.some.injEq] at h
    rw [mul_nil', addO_nil', h]
  | .cons be bc br, acc, r, hb, hacc, h => by
    have hbN : NF (.cons be bc .nil) := ⟨hb.1, hb.2.1, trivial, trivial⟩
    have chkS : ∀ {a b}, chk a = some b → b = a := fun {a b} h => by
      unfold chk at h
      split at h
      · simp at h
      · simpa using h.symm
    have addS : ∀ {a b d}, addC a b = some d → d = addO a b := fun {a b d} h => by
      cases b with
      | nil => simpa [addC, addO] using h.symm
      | cons _ _ _ => exact chkS h
    have e1 : mulO (.cons ae ac ar) (.cons be bc br) = addO (mulO (.cons ae ac ar) (.cons be bc .nil)) (mulO (.cons ae ac ar) br) := by
      rw [← mul_add ha hbN hb.2.2.1]
      congr 1
      cases br with
      | nil => rfl
      | cons x y z => rw [addO_gt hb.2.2.2, addO_nil]
    simp only [prodL] at h
    split at h
    · simp at h
    · rename_i acc' hk
      have hacc' : acc' = addO acc (mulO (.cons ae ac ar) (.cons be bc .nil)) := by
        cases be with
        | nil =>
          simp only [stL, Option.bind_eq_some_iff] at hk
          obtain ⟨c, hc, hk⟩ := hk
          rw [addS hk, chkS hc, mul_fin]
        | cons x y z =>
          simp only [stL, Option.bind_eq_some_iff] at hk
          obtain ⟨e, he, hk⟩ := hk
          rw [addS hk, addS he, mul_inf (by simp), mul_nil']
      have := prod_mul ha br acc' r hb.2.2.1 (by rw [hacc']; exact addO_NF hacc (mul_NF ha hbN)) h
      rw [this, hacc', e1, addO_assoc hacc (mul_NF ha hbN) (mul_NF ha hb.2.2.1)]
end Go.Proofs.YtcmjlmnfdncajaaGreatDoor.TW
/- Plain: steps and descents. -/
namespace Go.Proofs.YtcmjlmnfdncajaaGreatDoor.TW
/-- 0 for 0, 1 for a successor, 2 for a limit. -/
def kindO : Od → Nat
  | .nil => 0
  | .cons .nil _ .nil => 1
  | .cons (.cons _ _ _) _ .nil => 2
  | .cons _ _ (.cons e c r) => kindO (.cons e c r)
theorem kind_lt : ∀ a, kindO a ≤ 2
  | .nil => by simp [kindO]
  | .cons .nil _ .nil => by simp [kindO]
  | .cons (.cons _ _ _) _ .nil => by simp [kindO]
  | .cons _ _ (.cons e c r) => by rw [kindO]; exact kind_lt _
theorem kind_zero {a : Od} : kindO a = 0 ↔ a = .nil := by
  constructor
  · intro h
    cases a with
    | nil => rfl
    | cons e c r =>
      exfalso
      induction r generalizing e c with
      | nil => cases e <;> simp [kindO] at h
      | cons e2 c2 r2 _ ih => rw [kindO] at h; exact ih _ _ h
  · intro h; subst h; rfl
/-- What stands behind when the last part loses one. -/
def tlS (k : Nat) (s : Od) (n : Nat) : Od :=
  if k = 0 then .nil else if k = 1 then (if 0 < n then .cons s n .nil else .nil) else .cons s 1 .nil
def cutS (e : Od) (c : Nat) (t : Od) : Od := if 1 < c then .cons e (c - 1) t else t
def stepO : Od → Nat → Od
  | .nil, _ => .nil
  | .cons e c .nil, n => cutS e c (tlS (kindO e) (stepO e n) n)
  | .cons e c (.cons e' c' r'), n => .cons e c (stepO (.cons e' c' r') n)
theorem step_last {e : Od} {c n : Nat} : stepO (.cons e c .nil) n = cutS e c (tlS (kindO e) (stepO e n) n) := by rw [stepO]
theorem step_more {e r : Od} {c n : Nat} (h : r ≠ .nil) : stepO (.cons e c r) n = .cons e c (stepO r n) := by
  cases r with
  | nil => exact absurd rfl h
  | cons _ _ _ => rw [stepO]
theorem kind_last1 {c : Nat} : kindO (.cons .nil c .nil) = 1 := rfl
theorem kind_last2 {e : Od} {c : Nat} (h : e ≠ .nil) : kindO (.cons e c .nil) = 2 := by
  cases e with
  | nil => exact absurd rfl h
  | cons _ _ _ => rfl
theorem kind_more {e r : Od} {c : Nat} (h : r ≠ .nil) : kindO (.cons e c r) = kindO r := by
  cases r with
  | nil => exact absurd rfl h
  | cons _ _ _ => rw [kindO]
theorem step_succ : ∀ {a : Od} (n m : Nat), kindO a = 1 → stepO a n = stepO a m
  | .nil, _, _, h => by simp [kindO] at h
  | .cons e c .nil, n, m, h => by
    cases e with
    | nil =>
      rw [step_last, step_last]
      simp [kindO, tlS]
    | cons _ _ _ => rw [kind_last2 (by simp)] at h; omega
  | .cons e c (.cons e' c' r'), n, m, h => by
    rw [kind_more (by simp)] at h
    rw [step_more (r := .cons e' c' r') (by simp), step_more (r := .cons e' c' r') (by simp), step_succ n m h]
theorem tl_hd {e s : Od} {n : Nat} (h : e ≠ .nil → ltO s e) : HdLt e (tlS (kindO e) s n) := by
  unfold tlS
  by_cases h0 : kindO e = 0
  · rw [if_pos h0]; trivial
  · have := h (fun h1 => h0 (kind_zero.2 h1))
    rw [if_neg h0]
    split
    · split
      · exact this
      · trivial
    · exact this
theorem cut_hd {x e t : Od} {c : Nat} (h : ltO e x) (ht : HdLt e t) : HdLt x (cutS e c t) := by
  unfold cutS
  split
  · exact h
  · exact ht.up h
theorem step_lt : ∀ {a : Od} (n : Nat), a ≠ .nil → ltO (stepO a n) a
  | .nil, n, h => absurd rfl h
  | .cons e c .nil, n, _ => by
    rw [step_last]
    have ht : HdLt e (tlS (kindO e) (stepO e n) n) := tl_hd (fun h => step_lt n h)
    unfold cutS
    split
    · exact lt_cons.2 (.inr ⟨rfl, .inl (by omega)⟩)
    · cases hx : tlS (kindO e) (stepO e n) n with
      | nil => exact nil_lt
      | cons e2 c2 r2 => rw [hx] at ht; exact lt_cons.2 (.inl ht)
  | .cons e c (.cons e' c' r'), n, _ => by
    rw [step_more (by simp)]
    exact lt_cons.2 (.inr ⟨rfl, .inr ⟨rfl, step_lt n (by simp)⟩⟩)
theorem step_hd {x : Od} {a : Od} {n : Nat} (h : HdLt x a) : HdLt x (stepO a n) := by
  cases a with
  | nil => trivial
  | cons e c r =>
    cases r with
    | nil => rw [step_last]; exact cut_hd h (tl_hd (fun h => step_lt n h))
    | cons _ _ _ => rw [step_more (by simp)]; exact h
theorem step_NF : ∀ {a : Od} (n : Nat), NF a → NF (stepO a n)
  | .nil, n, h => trivial
  | .cons e c .nil, n, h => by
    rw [step_last]
    have hs := step_NF (a := e) n h.1
    have ht : HdLt e (tlS (kindO e) (stepO e n) n) := tl_hd (fun h => step_lt n h)
    have hn : NF (tlS (kindO e) (stepO e n) n) := by
      unfold tlS
      split
      · trivial
      · split
        · split
          · exact ⟨hs, by assumption, trivial, trivial⟩
          · trivial
        · exact ⟨hs, by omega, trivial, trivial⟩
    unfold cutS
    split
    · exact ⟨h.1, by omega, hn, ht⟩
    · exact hn
  | .cons e c (.cons e' c' r'), n, h => by
    rw [step_more (by simp)]
    exact ⟨h.1, h.2.1, step_NF n h.2.2.1, step_hd h.2.2.2⟩
theorem leO_cons {e r r' : Od} {c : Nat} (h : leO r r') : leO (.cons e c r) (.cons e c r') := by
  rcases h with h | h
  · left; rw [h]
  · right; exact lt_cons.2 (.inr ⟨rfl, .inr ⟨rfl, h⟩⟩)
theorem step_mono : ∀ {a : Od} {n m : Nat}, kindO a = 2 → n < m → leO (stepO a n) (stepO a m) ∧ (0 < n → ltO (stepO a n) (stepO a m))
  | .nil, _, _, h, _ => by simp [kindO] at h
  | .cons e c .nil, n, m, h, hnm => by
    by_cases he : e = .nil
    · subst he; rw [kind_last1] at h; omega
    · have key : leO (tlS (kindO e) (stepO e n) n) (tlS (kindO e) (stepO e m) m) ∧ (0 < n → ltO (tlS (kindO e) (stepO e n) n) (tlS (kindO e) (stepO e m) m)) := by
        have h0 : kindO e ≠ 0 := fun h => he (kind_zero.1 h)
        unfold tlS
        rw [if_neg h0, if_neg h0]
        by_cases h1 : kindO e = 1
        · rw [if_pos h1, if_pos h1, if_pos (show 0 < m by omega), step_succ n m h1]
          by_cases hn : 0 < n
          · rw [if_pos hn]
            have : ltO (.cons (stepO e m) n .nil) (.cons (stepO e m) m .nil) := lt_cons.2 (.inr ⟨rfl, .inl hnm⟩)
            exact ⟨.inr this, fun _ => this⟩
          · rw [if_neg hn]
            exact ⟨.inr nil_lt, fun h => absurd h hn⟩
        · rw [if_neg h1, if_neg h1]
          have := kind_lt e
          obtain ⟨i1, i2⟩ := step_mono (a := e) (n := n) (m := m) (by omega) hnm
          refine ⟨?_, fun hn => lt_cons.2 (.inl (i2 hn))⟩
          rcases i1 with q | q
          · left; rw [q]
          · right; exact lt_cons.2 (.inl q)
      rw [step_last, step_last]
      unfold cutS
      split
      · exact ⟨leO_cons key.1, fun hn => lt_cons.2 (.inr ⟨rfl, .inr ⟨rfl, key.2 hn⟩⟩)⟩
      · exact key
  | .cons e c (.cons e' c' r'), n, m, h, hnm => by
    rw [kind_more (by simp)] at h
    obtain ⟨i1, i2⟩ := step_mono (n := n) (m := m) h hnm
    rw [step_more (r := .cons e' c' r') (by simp), step_more (r := .cons e' c' r') (by simp)]
    exact ⟨leO_cons i1, fun hn => lt_cons.2 (.inr ⟨rfl, .inr ⟨rfl, i2 hn⟩⟩)⟩
/-- Numbers in a step: those that were there, and n. -/
theorem step_most : ∀ (a : Od) (n : Nat), mostO (stepO a n) ≤ max (mostO a) (max n 1)
  | .nil, n => by simp [stepO, mostO]
  | .cons e c .nil, n => by
    have := step_most e n
    rw [step_last]
    unfold cutS tlS
    split <;> (try split) <;> (try split) <;> (try split) <;> simp only [mostO] <;> omega
  | .cons e c (.cons e' c' r'), n => by
    have := step_most (.cons e' c' r') n
    rw [step_more (by simp)]
    simp only [mostO] at this ⊢
    omega
theorem step_succ_most {a : Od} (n : Nat) (h : kindO a = 1) : mostO (stepO a n) ≤ max (mostO a) 1 := by
  rw [step_succ n 0 h]
  have := step_most a 0
  omega
/-- A descent: none: too long, or too large. -/
def desW (big : Od → Bool) : Nat → Od → Nat → Option (List Od)
  | 0, _, _ => none
  | f + 1, .nil, _ => some [.nil]
  | f + 1, .cons e c r, n => if big (stepO (.cons e c r) n) = true then none else (desW big f (stepO (.cons e c r) n) (n + 1)).map (.cons e c r :: ·)
/-- Behind the greatest number, a limit comes to no end. -/
theorem doom : ∀ (f : Nat) (a : Od) (n : Nat), kindO a = 2 → 1000 < n → desW bigT f a n = none
  | 0, _, _, _, _ => rfl
  | f + 1, .nil, _, h, _ => by simp [kindO] at h
  | f + 1, .cons e c r, n, h, hn => by
    have key : ∀ a, kindO a = 2 → 1000 < topO (stepO a n) ∨ kindO (stepO a n) = 2 := fun a => by
      induction a with
      | nil => intro h; simp [kindO] at h
      | cons e c r ihe ihr =>
        intro h
        cases r with
        | nil =>
          by_cases he : e = .nil
          · subst he; rw [kind_last1] at h; omega
          · rw [step_last]
            have h0 : kindO e ≠ 0 := fun h => he (kind_zero.1 h)
            unfold tlS
            rw [if_neg h0]
            by_cases h1 : kindO e = 1
            · left
              rw [if_pos h1, if_pos (by omega)]
              unfold cutS
              split <;> simp only [topO] <;> omega
            · right
              rw [if_neg h1]
              have h2 : kindO e = 2 := by have := kind_lt e; omega
              have hne : stepO e n ≠ .nil := by
                rcases ihe h2 with q | q
                · intro e1; rw [e1] at q; simp [topO] at q
                · intro e1; rw [e1] at q; simp [kindO] at q
              unfold cutS
              split
              · rw [kind_more (by simp), kind_last2 hne]
              · rw [kind_last2 hne]
        | cons e' c' r' =>
          rw [kind_more (by simp)] at h
          rw [step_more (by simp)]
          rcases ihr h with q | q
          · left; simp only [topO] at q ⊢; omega
          · right
            cases hs : stepO (.cons e' c' r') n with
            | nil => rw [hs] at q; simp [kindO] at q
            | cons _ _ _ => rw [kind_more (by simp), ← hs]; exact q
    simp only [desW]
    split
    · rfl
    · rename_i hb
      rcases key _ h with q | q
      · exact absurd (decide_eq_true (.inl q)) hb
      · rw [doom f _ (n + 1) q (by omega)]; rfl
theorem exM_le (a : Od) : exM a ≤ mostO a := by have := most_eq a; omega
/-- A step with a number beyond 1000 in an exponent, of an ordinal with none, is a limit, and late. -/
theorem step_late : ∀ {a : Od} {n : Nat}, mostO a ≤ 1000 → 1000 < exM (stepO a n) → 1000 < n ∧ kindO (stepO a n) = 2
  | .nil, n, _, h => by simp [stepO, exM] at h
  | .cons e c .nil, n, ha, h => by
    simp only [mostO] at ha
    rw [step_last] at h ⊢
    have hm := step_most e n
    have hx := exM_le e
    have h0 : kindO e ≠ 0 := fun h0 => by
      unfold tlS cutS at h
      rw [if_pos h0] at h
      split at h <;> simp only [exM] at h <;> omega
    have h1 : kindO e ≠ 1 := fun h1 => by
      have := step_succ_most n h1
      unfold tlS cutS at h
      rw [if_neg h0, if_pos h1] at h
      split at h <;> split at h <;> simp only [exM] at h <;> omega
    unfold tlS at h ⊢
    rw [if_neg h0, if_neg h1] at h ⊢
    have hs : 1000 < mostO (stepO e n) := by
      unfold cutS at h
      split at h <;> simp only [exM] at h <;> omega
    have hne : stepO e n ≠ .nil := fun e1 => by rw [e1] at hs; simp [mostO] at hs
    refine ⟨by omega, ?_⟩
    unfold cutS
    split
    · rw [kind_more (by simp), kind_last2 hne]
    · rw [kind_last2 hne]
  | .cons e c (.cons e' c' r'), n, ha, h => by
    have ha' : mostO e ≤ 1000 ∧ mostO (.cons e' c' r') ≤ 1000 := by simp only [mostO] at ha ⊢; omega
    rw [step_more (by simp)] at h ⊢
    have h' : 1000 < exM (stepO (.cons e' c' r') n) := by
      have : exM (.cons e c (stepO (.cons e' c' r') n)) = max (mostO e) (exM (stepO (.cons e' c' r') n)) := rfl
      omega
    obtain ⟨i1, i2⟩ := step_late ha'.2 h'
    refine ⟨i1, ?_⟩
    cases hs : stepO (.cons e' c' r') n with
    | nil => rw [hs] at i2; simp [kindO] at i2
    | cons _ _ _ => rw [kind_more (by simp), ← hs]; exact i2
theorem des_eq : ∀ (f : Nat) (a : Od) (n : Nat), mostO a ≤ 1000 → desW bigT f a n = desW bigO f a n
  | 0, _, _, _ => rfl
  | f + 1, .nil, _, _ => rfl
  | f + 1, .cons e c r, n, h => by
    simp only [desW]
    by_cases hx : exM (stepO (.cons e c r) n) ≤ 1000
    · rw [big_eq hx]
      by_cases hb : bigT (stepO (.cons e c r) n) = true
      · rw [if_pos hb, if_pos hb]
      · rw [if_neg hb, if_neg hb, des_eq f _ _ ?_]
        have := most_eq (stepO (.cons e c r) n)
        have hb' : ¬ (1000 < topO (stepO (.cons e c r) n) ∨ 60 < szO (stepO (.cons e c r) n)) := fun q => hb (decide_eq_true q)
        omega
    · obtain ⟨l1, l2⟩ := step_late (n := n) h (by omega)
      have hO : bigO (stepO (.cons e c r) n) = true := decide_eq_true (by have := exM_le (stepO (.cons e c r) n); omega)
      rw [if_pos hO]
      split
      · rfl
      · rw [doom f _ (n + 1) l2 (by omega)]; rfl
end Go.Proofs.YtcmjlmnfdncajaaGreatDoor.TW
