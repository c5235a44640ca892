/- A part of the walk: what this seat's statements share. -/
import Derived.Test.YtehjmakiljhjdaaZG11
import Derived.Test.YtehjmakiljhjdaaZG9
import Derived.Test.YtehjmakiljhjdaaZG6
import Derived.Test.YtehjmakiljhjdaaZG10
import Derived.Test.YtehjmakiljhjdaaZG8
import Derived.Sort.Grow
import Derived.Deep.Draws
import Derived.Test.YtehjmakiljhjdaaZG3
import Derived.Test.YtehjmakiljhjdaaZG4
set_option linter.unusedVariables false
set_option linter.unusedSimpArgs false
set_option linter.unusedSectionVars false
namespace Go.Proofs.Ytehjmakiljhjdaa
open Go Go.RowKit Go.Proofs.Ytehjmakiljhjdaa.VW
attribute [local irreducible] W Ops OrdA VW.Ord OrdX Wi OpsI OrdF
def cmI (x y : Int) : Int := if x < y then -1 else if x > y then 1 else 0
theorem isNaN_c (x : Int) (w : World) : Calls Try.prog 92 #[.int .i64 x] w (Ret fun v w' => v = .bool false ∧ w' = w) := by
  refine calls_W (vs := [_]) Try.func92 rfl (by kernel_rfl) rfl ?_
  (repeat (first | with_reducible refine W.seq ?_ | with_reducible refine Ops.nil ?_ | with_reducible refine W.region ?_ | refine z_p (kk := ?_)))
  refine W.fret rfl ⟨?_, rfl⟩
  show Value.bool _ = _
  simp
theorem cmp_c (x y : Int) (w : World) : Calls Try.prog 73 #[.int .i64 x, .int .i64 y] w (Ret fun v w' => v = .int .i64 (cmI x y) ∧ w' = w) := by
  refine calls_W (vs := [_, _]) Try.func73 rfl (by kernel_rfl) rfl ?_
  (repeat (first | with_reducible refine W.seq ?_ | with_reducible refine Ops.nil ?_ | with_reducible refine W.region ?_ | refine z_p (kk := ?_)))
  refine Ops.callS rfl rfl rfl rfl rfl (isNaN_c _ _) ?_
  (repeat (first | with_reducible refine W.seq ?_ | with_reducible refine Ops.nil ?_ | with_reducible refine W.region ?_ | refine z_p (kk := ?_)))
  refine Ops.callS rfl rfl rfl rfl rfl (isNaN_c _ _) ?_
  (repeat (first | with_reducible refine W.seq ?_ | with_reducible refine Ops.nil ?_ | with_reducible refine W.region ?_ | refine z_p (kk := ?_)))
  refine W.condF rfl (by first | rfl | assumption | (simp only [bnf] <;> omega) | (simp only [*, bnf]; done) | fail) ?_
  (repeat (first | with_reducible refine W.seq ?_ | with_reducible refine Ops.nil ?_ | with_reducible refine W.region ?_ | refine z_p (kk := ?_) | with_reducible refine W.skip ?_))
  refine W.condF rfl (by first | rfl | assumption | (simp only [bnf] <;> omega) | (simp only [*, bnf]; done) | fail) ?_
  (repeat (first | with_reducible refine W.seq ?_ | with_reducible refine Ops.nil ?_ | with_reducible refine W.region ?_ | refine z_p (kk := ?_) | with_reducible refine W.skip ?_))
  by_cases h1 : x < y
  · refine W.condT rfl (by first | rfl | assumption | (simp only [bnf] <;> omega) | (simp only [*, bnf]; done) | fail) ?_
    (repeat (first | with_reducible refine W.seq ?_ | with_reducible refine Ops.nil ?_ | with_reducible refine W.region ?_ | refine z_p (kk := ?_)))
    refine W.fret rfl ⟨?_, rfl⟩
    rw [cmI, if_pos h1]; rfl
  · refine W.condF rfl (by first | rfl | assumption | (simp only [bnf] <;> omega) | (simp only [*, bnf]; done) | fail) ?_
    (repeat (first | with_reducible refine W.seq ?_ | with_reducible refine Ops.nil ?_ | with_reducible refine W.region ?_ | refine z_p (kk := ?_) | with_reducible refine W.skip ?_))
    by_cases h2 : x > y
    · refine W.condT rfl (by first | rfl | assumption | (simp only [bnf] <;> omega) | (simp only [*, bnf]; done) | fail) ?_
      (repeat (first | with_reducible refine W.seq ?_ | with_reducible refine Ops.nil ?_ | with_reducible refine W.region ?_ | refine z_p (kk := ?_)))
      refine W.fret rfl ⟨?_, rfl⟩
      rw [cmI, if_neg h1, if_pos h2]; rfl
    · refine W.condF rfl (by first | rfl | assumption | (simp only [bnf] <;> omega) | (simp only [*, bnf]; done) | fail) ?_
      (repeat (first | with_reducible refine W.seq ?_ | with_reducible refine Ops.nil ?_ | with_reducible refine W.region ?_ | refine z_p (kk := ?_) | with_reducible refine W.skip ?_))
      refine W.fret rfl ⟨?_, rfl⟩
      rw [cmI, if_neg h1, if_neg h2]; rfl
def slC : List Int → List Int → Int
  | [], [] => 0
  | [], _ :: _ => -1
  | _ :: _, [] => 1
  | x :: a, y :: b => if cmI x y ≠ 0 then cmI x y else slC a b
theorem cmI_zero {x y : Int} : cmI x y = 0 ↔ x = y := by
  unfold cmI
  split <;> (try split) <;> omega
theorem cmI_neg {x y : Int} : cmI x y < 0 ↔ x < y := by
  unfold cmI
  split <;> (try split) <;> omega
theorem cmI_bd (x y : Int) : -1 ≤ cmI x y ∧ cmI x y ≤ 1 := by
  unfold cmI
  split <;> (try split) <;> omega
theorem slC_drop {a b : List Int} : ∀ i, (∀ q, q < i → a.getD q 0 = b.getD q 0) → i ≤ a.length → i ≤ b.length → slC a b = slC (a.drop i) (b.drop i)
  | 0, _, _, _ => by simp
  | i + 1, h, ha, hb => by
    rw [slC_drop i (fun q hq => h q (by omega)) (by omega) (by omega)]
    have e1 := List.drop_eq_getElem_cons (l := a) (i := i) (by omega)
    have e2 := List.drop_eq_getElem_cons (l := b) (i := i) (by omega)
    have e := h i (by omega)
    simp only [List.getD_eq_getElem?_getD, List.getElem?_eq_getElem (show i < a.length by omega), List.getElem?_eq_getElem (show i < b.length by omega), Option.getD_some] at e
    rw [e1, e2, slC, cmI_zero.2 e]
    simp
theorem slC_at {a b : List Int} {i : Nat} (h : ∀ q, q < i → a.getD q 0 = b.getD q 0) (ha : i < a.length) (hb : i < b.length) (hne : cmI (a.getD i 0) (b.getD i 0) ≠ 0) : slC a b = cmI (a.getD i 0) (b.getD i 0) := by
  rw [slC_drop i h (by omega) (by omega), List.drop_eq_getElem_cons ha, List.drop_eq_getElem_cons hb, slC]
  simp only [List.getD_eq_getElem?_getD, List.getElem?_eq_getElem ha, List.getElem?_eq_getElem hb, Option.getD_some] at hne ⊢
  rw [if_pos hne]
theorem slC_lex : ∀ a b : List Int, (slC a b < 0 ↔ lexB a b = true) ∧ (slC a b = 0 ↔ a = b)
  | [], [] => by simp [slC, lexB]
  | [], _ :: _ => by simp [slC, lexB]
  | _ :: _, [] => by simp [slC, lexB]
  | x :: a, y :: b => by
    have ih := slC_lex a b
    simp only [slC, lexB]
    by_cases e : x = y
    · subst e
      rw [if_neg (by rw [cmI_zero.2 rfl]; simp), if_pos rfl]
      refine ⟨ih.1, ?_⟩
      rw [ih.2]; simp
    · have hne : cmI x y ≠ 0 := fun h => e (cmI_zero.1 h)
      rw [if_pos hne, if_neg e, cmI_neg, decide_eq_true_eq]
      refine ⟨Iff.rfl, ⟨fun h => absurd h hne, fun h => by simp at h; exact absurd h.1 e⟩⟩
set_option maxHeartbeats 1000000 in
theorem slCmp_c {w : World} {av bv : Value} {a b : List Int} (ha : SlI w av a) (hb : SlI w bv b) : Calls Try.prog 74 #[av, bv] w (Ret fun r w' => r = .int .i64 (slC a b) ∧ w' = w) := by
  have hal := Sl.len ha
  have hbl := Sl.len hb
  obtain ⟨Aa, ca, rfl⟩ := Sl.shape ha
  obtain ⟨Ab, cb, rfl⟩ := Sl.shape hb
  refine calls_W (vs := [_, _]) Try.func74 rfl (by kernel_rfl) rfl ?_
  (repeat (first | with_reducible refine W.seq ?_ | with_reducible refine Ops.nil ?_ | with_reducible refine W.region ?_ | refine z_p (kk := ?_) | with_reducible refine W.block ?_ | refine z_l (kk := ?_)))
  refine W.loop (fun m ρ w1 => ∃ (i : Nat), m = a.length - i ∧ i ≤ a.length ∧ i ≤ b.length ∧ w1 = w ∧ ρ = [(0, .slice Aa a.length ca), (1, .slice Ab b.length cb), (9, .slice Aa a.length ca), (10, .int .i64 a.length), (11, .int .i64 i)] ∧ ∀ q, q < i → a.getD q 0 = b.getD q 0)
    ⟨_, _, ⟨0, rfl, Nat.zero_le _, Nat.zero_le _, rfl, rfl, fun q hq => by omega⟩, (by repeat (first | exact trivial | refine And.intro rfl ?_))⟩ ?_
  rintro m ρ w1 ⟨i, rfl, hi, hib, rfl, rfl, heq⟩
  (repeat (first | with_reducible refine W.seq ?_ | with_reducible refine Ops.nil ?_ | with_reducible refine W.region ?_ | refine z_p (kk := ?_)))
  (first | refine W.condD rfl (fun hc => ?_) (fun hc => ?_) | refine W.condE rfl (fun hc => ?_) (fun hc => ?_) | refine W.condN rfl (fun hc => ?_) (fun hc => ?_) | refine W.cond rfl (fun hc => ?_) (fun hc => ?_))
  · have hil : i < a.length := by omega
    (repeat (first | with_reducible refine W.seq ?_ | with_reducible refine Ops.nil ?_ | with_reducible refine W.region ?_ | refine z_p (kk := ?_) | with_reducible refine W.skip ?_ | with_reducible refine W.block ?_ | refine z_l (kk := ?_) | refine z_I (kk := fun _ => ?_)))
    by_cases hge : (i : Int) ≥ b.length
    · refine W.condT rfl (by first | rfl | assumption | (simp only [bnf] <;> omega) | (simp only [*, bnf]; done) | fail) ?_
      (repeat (first | with_reducible refine W.seq ?_ | with_reducible refine Ops.nil ?_ | with_reducible refine W.region ?_ | refine z_p (kk := ?_)))
      refine W.fret rfl ⟨?_, rfl⟩
      have : i = b.length := by omega
      subst this
      rw [slC_drop b.length heq (by omega) (Nat.le_refl _), List.drop_length, List.drop_eq_getElem_cons hil]
      rfl
    · refine W.condF rfl (by first | rfl | assumption | (simp only [bnf] <;> omega) | (simp only [*, bnf]; done) | fail) ?_
      (repeat (first | with_reducible refine W.seq ?_ | with_reducible refine Ops.nil ?_ | with_reducible refine W.region ?_ | refine z_p (kk := ?_) | with_reducible refine W.skip ?_ | refine z_I (kk := fun _ => ?_)))
      refine Ops.callS rfl rfl rfl rfl rfl (cmp_c _ _ _) ?_
      (repeat (first | with_reducible refine W.seq ?_ | with_reducible refine Ops.nil ?_ | with_reducible refine W.region ?_ | refine z_p (kk := ?_)))
      by_cases hz : cmI (a.getD i 0) (b.getD i 0) = 0
      · refine W.condF rfl (by first | rfl | assumption | (simp only [bnf] <;> omega) | (simp only [*, bnf]; done) | fail) ?_
        (repeat (first | with_reducible refine Ops.nil ?_ | with_reducible refine W.region ?_ | refine z_p (kk := ?_) | refine z_a (kk := ?_) | with_reducible refine W.skip ?_ | with_reducible refine W.endb ?_))
        exact W.endl ⟨_, _, ⟨⟨i + 1, rfl, by omega, by omega, rfl, rfl, fun q hq => by
          by_cases e : q = i
          · rw [e]; exact cmI_zero.1 hz
          · exact heq q (by omega)⟩, by omega⟩, (by repeat (first | exact trivial | refine And.intro rfl ?_))⟩
      · refine W.condT rfl (by first | rfl | assumption | (simp only [bnf] <;> omega) | (simp only [*, bnf]; done) | fail) ?_
        (repeat (first | with_reducible refine W.seq ?_ | with_reducible refine Ops.nil ?_ | with_reducible refine W.region ?_ | refine z_p (kk := ?_)))
        refine W.fret rfl ⟨?_, rfl⟩
        rw [slC_at heq hil (by omega) hz]
        rfl
  · have hil : i = a.length := by omega
    subst hil
    (repeat (first | with_reducible refine W.seq ?_ | with_reducible refine Ops.nil ?_ | with_reducible refine W.region ?_ | refine z_p (kk := ?_) | refine W.exit rfl ?_ | refine z_l (kk := ?_)))
    by_cases hlt : (a.length : Int) < b.length
    · refine W.condT rfl (by first | rfl | assumption | (simp only [bnf] <;> omega) | (simp only [*, bnf]; done) | fail) ?_
      (repeat (first | with_reducible refine W.seq ?_ | with_reducible refine Ops.nil ?_ | with_reducible refine W.region ?_ | refine z_p (kk := ?_)))
      refine W.fret rfl ⟨?_, rfl⟩
      rw [slC_drop a.length heq (Nat.le_refl _) hib, List.drop_length, List.drop_eq_getElem_cons (by omega)]
      rfl
    · refine W.condF rfl (by first | rfl | assumption | (simp only [bnf] <;> omega) | (simp only [*, bnf]; done) | fail) ?_
      (repeat (first | with_reducible refine W.seq ?_ | with_reducible refine Ops.nil ?_ | with_reducible refine W.region ?_ | refine z_p (kk := ?_) | with_reducible refine W.skip ?_))
      refine W.fret rfl ⟨?_, rfl⟩
      have : a.length = b.length := by omega
      rw [slC_drop a.length heq (Nat.le_refl _) hib, List.drop_length, this, List.drop_length]
      rfl
/-- The first one that is not 0. -/
def bfS : List Int → Int
  | [] => 0
  | x :: r => if x ≠ 0 then x else bfS r
theorem bfS_drop {l : List Int} : ∀ i, (∀ q, q < i → l.getD q 0 = 0) → i ≤ l.length → bfS l = bfS (l.drop i)
  | 0, _, _ => by simp
  | i + 1, h, hl => by
    rw [bfS_drop i (fun q hq => h q (by omega)) (by omega), List.drop_eq_getElem_cons (by omega), bfS]
    have e := h i (by omega)
    simp only [List.getD_eq_getElem?_getD, List.getElem?_eq_getElem (show i < l.length by omega), Option.getD_some] at e
    rw [if_neg (by simp [e])]
theorem before_c {w : World} {lv : Value} {l : List Int} (hl : SlI w lv l) : Calls Try.prog 72 #[lv] w (Ret fun r w' => r = .int .i64 (bfS l) ∧ w' = w) := by
  have hll := Sl.len hl
  obtain ⟨Al, cl, rfl⟩ := Sl.shape hl
  refine calls_W (vs := [_]) Try.func72 rfl (by kernel_rfl) rfl ?_
  (repeat (first | with_reducible refine W.seq ?_ | with_reducible refine Ops.nil ?_ | with_reducible refine W.region ?_ | refine z_p (kk := ?_) | with_reducible refine W.block ?_ | refine z_l (kk := ?_)))
  refine W.loop (fun m ρ w1 => ∃ (i : Nat), m = l.length - i ∧ i ≤ l.length ∧ w1 = w ∧ ρ = [(5, .slice Al l.length cl), (6, .int .i64 l.length), (7, .int .i64 i)] ∧ ∀ q, q < i → l.getD q 0 = 0)
    ⟨_, _, ⟨0, rfl, Nat.zero_le _, rfl, rfl, fun q hq => by omega⟩, (by repeat (first | exact trivial | refine And.intro rfl ?_))⟩ ?_
  rintro m ρ w1 ⟨i, rfl, hi, rfl, rfl, heq⟩
  (repeat (first | with_reducible refine W.seq ?_ | with_reducible refine Ops.nil ?_ | with_reducible refine W.region ?_ | refine z_p (kk := ?_)))
  (first | refine W.condD rfl (fun hc => ?_) (fun hc => ?_) | refine W.condE rfl (fun hc => ?_) (fun hc => ?_) | refine W.condN rfl (fun hc => ?_) (fun hc => ?_) | refine W.cond rfl (fun hc => ?_) (fun hc => ?_))
  · have hil : i < l.length := by omega
    (repeat (first | with_reducible refine W.seq ?_ | with_reducible refine Ops.nil ?_ | with_reducible refine W.region ?_ | refine z_p (kk := ?_) | with_reducible refine W.skip ?_ | with_reducible refine W.block ?_ | refine z_I (kk := fun _ => ?_)))
    by_cases hz : l.getD i 0 = 0
    · refine W.condF rfl (by first | rfl | assumption | (simp only [bnf] <;> omega) | (simp only [*, bnf]; done) | fail) ?_
      (repeat (first | with_reducible refine Ops.nil ?_ | with_reducible refine W.region ?_ | refine z_p (kk := ?_) | refine z_a (kk := ?_) | with_reducible refine W.skip ?_ | with_reducible refine W.endb ?_))
      exact W.endl ⟨_, _, ⟨⟨i + 1, rfl, by omega, rfl, rfl, fun q hq => by
        by_cases e : q = i
        · rw [e]; exact hz
        · exact heq q (by omega)⟩, by omega⟩, (by repeat (first | exact trivial | refine And.intro rfl ?_))⟩
    · refine W.condT rfl (by first | rfl | assumption | (simp only [bnf] <;> omega) | (simp only [*, bnf]; done) | fail) ?_
      (repeat (first | with_reducible refine W.seq ?_ | with_reducible refine Ops.nil ?_ | with_reducible refine W.region ?_ | refine z_p (kk := ?_)))
      refine W.fret rfl ⟨?_, rfl⟩
      rw [bfS_drop i heq hi, List.drop_eq_getElem_cons hil, bfS]
      have e2 : l[i] = l.getD i 0 := by simp [List.getD_eq_getElem?_getD, hil]
      rw [e2, if_pos hz]
      rfl
  · have hil : i = l.length := by omega
    subst hil
    (repeat (first | with_reducible refine W.seq ?_ | with_reducible refine Ops.nil ?_ | with_reducible refine W.region ?_ | refine z_p (kk := ?_) | refine W.exit rfl ?_))
    refine W.fret rfl ⟨?_, rfl⟩
    rw [bfS_drop l.length heq (Nat.le_refl _), List.drop_length]
    rfl
/-- Does o come before a? -/
def beT (c : List (List Int)) (a o : List Int) : Bool := decide (totP c o c.length < totP c a c.length) || (decide (totP c o c.length = totP c a c.length) && lexB o a)
theorem beT_bf {c : List (List Int)} {a o : List Int} : (bfS [cmI (totP c o c.length) (totP c a c.length), slC o a] < 0) ↔ beT c a o = true := by
  unfold beT
  simp only [bfS, Bool.or_eq_true, Bool.and_eq_true, decide_eq_true_eq]
  have h1 := cmI_neg (x := totP c o c.length) (y := totP c a c.length)
  have h2 := cmI_zero (x := totP c o c.length) (y := totP c a c.length)
  have h3 := (slC_lex o a).1
  by_cases hz : cmI (totP c o c.length) (totP c a c.length) = 0
  · rw [if_neg (by simp [hz])]
    have he := h2.1 hz
    by_cases hs : slC o a = 0
    · rw [if_neg (by simp [hs])]
      constructor
      · intro h; omega
      · rintro (h | ⟨_, h⟩)
        · omega
        · have := h3.2 h; omega
    · rw [if_pos hs, h3]
      constructor
      · intro h; exact .inr ⟨he, h⟩
      · rintro (h | ⟨_, h⟩)
        · omega
        · exact h
  · rw [if_pos hz, h1]
    constructor
    · intro h; exact .inl h
    · rintro (h | ⟨h, _⟩)
      · exact h
      · exact absurd (h2.2 h) hz
end Go.Proofs.Ytehjmakiljhjdaa
namespace Go.Proofs.Ytehjmakiljhjdaa
open Go Go.RowKit Go.Proofs.Ytehjmakiljhjdaa.VW
attribute [local irreducible] W Ops OrdA VW.Ord OrdX Wi OpsI OrdF
set_option maxHeartbeats 4000000 in
theorem Index_c {w : World} {cv av : Value} {c : List (List Int)} {x : List Int} (hM : RowsM w cv c) (hx : Arg w av x) :
    Calls Try.prog 43 #[cv, av] w (Ret fun r w' => r = (if costsB c = true ∧ Asg x c.length then .tuple #[.int .i64 (cnL (beT c x) (allL c.length) : Nat), .int .i64 0] else .tuple #[.int .i64 0, .int .i64 2]) ∧ Below w.heap.size w w') := by
  obtain ⟨Ac, cc, rfl⟩ := hM.sl
  obtain ⟨Ax, cx, rfl⟩ := Sl.shape hx.1
  refine calls_W (vs := [_, _]) Try.func43 rfl (by kernel_rfl) rfl ?_
  (repeat (first | with_reducible refine W.seq ?_ | with_reducible refine W.region ?_))
  refine Ops.box rfl rfl rfl rfl (fun w1 b2 hM2 => ?_)
  refine Ops.box rfl rfl rfl rfl (fun w2 b3 hM3 => ?_)
  have h12 := Mk.bel hM2
  have h23 := Mk.bel hM3
  have e2 := hM2.r_eq
  have e3 := hM3.r_eq
  have s2 := hM2.size
  have s3 := hM3.size
  have hb : Below w.heap.size w w2 := Below.via h12 h23
  have B2 : Blk w2 b2 #[.slice Ac c.length cc] 22 := Blk.kp hM2.at_ (Kp.of_below (S := fun _ => False) h23) (fun e => e)
  have B3 : Blk w2 b3 #[.slice Ax x.length cx] 23 := hM3.at_
  have hM' := hM.below hb
  have hx' := hx.below hb
  have hb22 : Below w2.heap.size w2 w2 := Below.refl _ _
  (repeat (first | with_reducible refine W.seq ?_ | with_reducible refine Ops.nil ?_ | with_reducible refine W.region ?_ | refine z_p (kk := ?_) | refine z_d (kk := ?_)))
  refine Ops.call rfl rfl rfl rfl rfl (areCosts_c hM') (fun r w4 hR => ?_)
  obtain ⟨rfl, hb4⟩ := hR
  have hb04 := Below.via hb hb4
  cases hc : costsB c with
  | false =>
    (repeat (first | with_reducible refine Ops.nil ?_ | refine z_p (kk := ?_) | refine z_n (kk := ?_)))
    refine W.condT rfl (by first | rfl | assumption | (simp only [bnf] <;> omega) | (simp only [*, bnf]; done) | fail) ?_
    (repeat (first | with_reducible refine W.seq ?_ | with_reducible refine Ops.nil ?_ | with_reducible refine W.region ?_ | refine z_p (kk := ?_)))
    refine W.fret rfl ⟨?_, hb04⟩
    rw [if_neg (by simp)]
    rfl
  | true =>
    have hC := costs_iff.1 hc
    have hn7 := hC.n7
    have hL := levL_lt (n := c.length) (i := c.length) hn7 hn7
    change (allL c.length).length ≤ 823543 at hL
    (repeat (first | refine z_p (kk := ?_) | refine z_y (kk := ?_) | refine z_D (kk := ?_)))
    refine Ops.call rfl rfl rfl rfl rfl (isAsg_c (hM'.below hb4) hn7 (hx'.below hb4)) (fun r w5 hR => ?_)
    obtain ⟨rfl, rfl⟩ := hR
    by_cases hA : Asg x c.length
    · rw [if_pos ⟨rfl, hA⟩, decide_eq_true hA]
      have hxl := hA.1
      (repeat (first | with_reducible refine Ops.nil ?_ | refine z_p (kk := ?_) | refine z_y (kk := ?_)))
      refine W.condF rfl (by first | rfl | assumption | (simp only [bnf] <;> omega) | (simp only [*, bnf]; done) | fail) ?_
      (repeat (first | with_reducible refine W.seq ?_ | with_reducible refine W.region ?_ | with_reducible refine W.skip ?_ | refine z_D (kk := ?_)))
      refine Ops.call rfl rfl rfl rfl rfl (total_c (hM'.below hb4) hC (Sl.below hx'.1 hb4) (fun q hq => (hA.2 q hq).1) (by rw [hA.1]; exact Nat.le_refl _)) (fun r w6 hR => ?_)
      obtain ⟨rfl, rfl⟩ := hR
      rw [hA.1]
      refine Ops.alloc rfl rfl rfl rfl (fun w7 b6 hM6 => ?_)
      have h67 := Mk.bel hM6
      have e6 := hM6.r_eq
      have s6 := hM6.size
      refine Ops.st rfl rfl rfl rfl rfl rfl rfl hM6.at_ (by exact Nat.zero_lt_one) (fun w8 hu8 => ?_)
      have B6 : Blk w8 b6 #[.int .i64 (totP c x c.length)] 3 := hu8.blk
      have su8 := hu8.size
      (repeat (first | with_reducible refine W.seq ?_ | with_reducible refine Ops.nil ?_ | with_reducible refine W.region ?_))
      refine Ops.alloc rfl rfl rfl rfl (fun w9 b7 hM7 => ?_)
      have e7 := hM7.r_eq
      have s7 := hM7.size
      refine Ops.st rfl rfl rfl rfl rfl rfl rfl hM7.at_ (by exact Nat.zero_lt_one) (fun w10 hu10 => ?_)
      have B7 : Blk w10 b7 #[.int .i64 0] 3 := hu10.blk
      have B6' : Blk w10 b6 #[.int .i64 (totP c x c.length)] 3 := (B6.kp hM7.kp (fun e => e)).kp hu10.kp (fun e => by omega)
      have s4 := hb4.size
      have hb210 : Below w2.heap.size w2 w10 := Below.put (Below.put (Below.put (Below.via hb4 h67) hu8.kp (fun i e => by omega)) hM7.kp (fun _ e => e.elim)) hu10.kp (fun i e => by omega)
      refine Ops.nil ?_
      refine W.toJ (JW.seq (by exact rfl) ?_)
      (repeat (first | with_reducible refine W.region ?_ | refine z_D (kk := ?_)))
      refine Ops.call rfl rfl rfl rfl rfl all_c (fun rv wE hR => ?_)
      obtain ⟨b90, rfl, hB90, hge, hlE⟩ := hR
      have hb2E := Below.via hb210 hlE
      have hb0E := Below.via hb hb2E
      have B7E : Blk wE b7 #[.int .i64 0] 3 := B7.kp (Kp.of_below (S := fun _ => False) hlE) (fun e => e)
      have B6E : Blk wE b6 #[.int .i64 (totP c x c.length)] 3 := B6'.kp (Kp.of_below (S := fun _ => False) hlE) (fun e => e)
      have B2E : Blk wE b2 #[.slice Ac c.length cc] 22 := B2.kp (Kp.of_below (S := fun _ => False) hb2E) (fun e => e)
      have B3E : Blk wE b3 #[.slice Ax x.length cx] 23 := B3.kp (Kp.of_below (S := fun _ => False) hb2E) (fun e => e)
      have hB90' : Blk wE b90 #[.slice Ac c.length cc] 71 := hB90
      have hME := hM'.below hb2E
      have g7 := B7.lt
      have g7E := B7E.lt
      have g2E := B2E.lt
      have g3E := B3E.lt
      have g6E := B6E.lt
      refine Ops.nil (W.endl ?_)
      refine JW.sub (ρ' := [(2, .pointer (some ⟨b2, 0, none⟩)), (3, .pointer (some ⟨b3, 0, none⟩)), (6, .pointer (some ⟨b6, 0, none⟩)), (7, .pointer (some ⟨b7, 0, none⟩)), (22, .func (.func 90) #[] #[.pointer (some ⟨b90, 0, none⟩)])]) (by repeat (first | exact trivial | refine And.intro rfl ?_)) ?_
      refine JW.alls (b1 := b90) (n := c.length) (A := Ac) (cap := cc) (own0 := fun k => k = b7) (I := fun done own W => (∀ k, own k ↔ k = b7) ∧ Kp (fun k => k = b7) wE W ∧ Blk W b7 #[.int .i64 (cnL (beT c x) done : Nat)] 3)
        hn7 rfl (by exact rfl) (by exact rfl) hB90' (by omega) (fun x hx => by omega) (fun done own W W' h k => ?_) ⟨fun k => Iff.rfl, Kp.of_below (Below.refl _ _), B7E⟩ (fun L done own a A m wp hL2 h hpre hAa hs hm ho hW => ?_) (fun D w9 own hD h hdf => ?_)
      · obtain ⟨q1, q2, q3⟩ := h
        exact ⟨q1, (q2.trans k).mono (fun i hi e => by omega), q3.kp k (fun e => by omega)⟩
      · refine Wi.regionN rfl rfl ?_
        (repeat (first | with_reducible refine Ops.nil ?_ | refine z_p (kk := ?_)))
        refine W.endl ⟨rfl, rfl, fun wq h' hsq hwq => ?_⟩
        obtain ⟨q1, q2, q3⟩ := h'
        have B2q := B2E.kp q2 (fun e => by omega)
        have B3q := B3E.kp q2 (fun e => by omega)
        have B6q := B6E.kp q2 (fun e => by omega)
        have hbel : Below w.heap.size w wq := Below.put hb0E q2 (fun i e => by have := hb.size; omega)
        have hMq : RowsM wq (.slice Ac c.length cc) c := hM.below hbel
        have hxq := Sl.below hx.1 hbel
        have hbqq : Below wq.heap.size wq wq := Below.refl _ _
        have hdl : done.length < 823543 := by
          obtain ⟨rest, e⟩ := hpre
          have := congrArg List.length e
          simp at this
          omega
        have hcl := cnL_le (beT c x) done
        have hsn := cnL_snoc (beT c x) done a
        have hal := hAa.1
        have hsq' : SlI wq (.slice A c.length m) a := by rw [← hal]; exact hsq
        refine Wi.block (Wi.seq (Wi.ordA 8 [(0, 2), (1, 1), (2, 2), (3, 2), (4, 2), (5, 1), (6, 2), (7, 2), (8, 0), (9, 0), (10, 1)] rfl (by kernel_rfl) (by kernel_rfl) (by kernel_rfl) rfl (by kernel_rfl) ?_))
        (repeat (first | refine x_p (kk := ?_) | refine x_D (kk := ?_)))
        refine OrdA.call rfl rfl rfl rfl rfl rfl rfl (fun w' hw' => Calls.same hw' (total_c (hMq.below hw') hC (Sl.below hsq hw') (fun q hq => (hAa.2 q hq).1) (by rw [hal]; exact Nat.le_refl _))) ?_
        rw [hal]
        (repeat (first | refine x_D (kk := ?_)))
        refine OrdA.call rfl rfl rfl rfl rfl rfl rfl (fun w' hw' => Calls.same hw' (cmp_c _ _ _)) ?_
        (repeat (first | refine x_p (kk := ?_) | refine x_D (kk := ?_)))
        refine OrdA.call rfl rfl rfl rfl rfl rfl rfl (fun w' hw' => Calls.same hw' (slCmp_c (Sl.below hsq' hw') (Sl.below hxq hw'))) ?_
        refine OrdA.eff rfl (fun wr hbr => Ops.bs2 rfl rfl rfl rfl rfl rfl rfl rfl rfl rfl rfl (fun ws rs hMs => Ops.nil (W.endl ?_)))
        have hbqs : Below wq.heap.size wq ws := Below.put hbr hMs.kp (fun _ e => e.elim)
        refine VW.Ord.effT rfl (Ops.callS rfl rfl rfl rfl rfl (before_c (lit2 hMs)) (Ops.nil (W.endl ?_)))
        (repeat (first | refine y_p (kk := ?_)))
        refine VW.Ord.nil (W.endl ?_)
        have q3s := q3.kp (Kp.of_below (S := fun _ => False) hbqs) (fun e => e)
        have hbb := beT_bf (c := c) (a := x) (o := a)
        refine Wi.cond rfl (fun hc => ?_) (fun hc => Wi.skip ⟨rfl, own, ⟨q1, (q2.trans (Kp.of_below (S := fun k => k = b7) hbqs)).mono (fun i hi e => by omega), ?_⟩, Kp.of_below hbqs, fun x h => h, fun x h => .inl h, fun x h => by have := (q1 x).1 h; have := hbqs.size; have := q3.lt; omega⟩)
        · have hp : beT c x a = true := hbb.1 (by simpa using hc)
          rw [hp, if_pos rfl] at hsn
          refine Wi.regionN rfl rfl ?_
          have hbss : Below ws.heap.size ws ws := Below.refl _ _
          (repeat (first | refine z_a (kk := ?_) | refine z_d (kk := ?_)))
          refine Ops.st rfl rfl rfl rfl rfl rfl rfl q3s (by simp) (fun wt hut => Ops.nil (W.endl ?_))
          have hkk : Kp (fun k => k = b7) wq wt := ((Kp.of_below (S := fun k => k = b7) hbqs).trans hut.kp).mono (fun i hi e => by rcases e with e | e <;> exact e)
          refine ⟨rfl, own, ⟨q1, (q2.trans hkk).mono (fun i hi e => by rcases e with e | e <;> exact e), ?_⟩, hkk.mono (fun i hi e => (q1 i).2 e), fun x h => h, fun x h => .inl h, fun x h => by have := (q1 x).1 h; have := hkk.size; have := q3.lt; omega⟩
          rw [hsn]
          simpa using hut.blk
        · have hp : beT c x a = false := by
            cases hbe : beT c x a with
            | false => rfl
            | true => have := hbb.2 hbe; simp at hc; omega
          rw [hsn, hp, if_neg (by simp), Nat.add_zero]
          exact q3s
      · obtain ⟨q1, q2, q3⟩ := h
        have hb99 : Below w9.heap.size w9 w9 := Below.refl _ _
        (repeat (first | with_reducible refine W.seq ?_ | with_reducible refine Ops.nil ?_ | with_reducible refine W.region ?_ | refine z_p (kk := ?_) | refine z_d (kk := ?_)))
        refine W.ret ⟨rfl, hdf, _, fun a hr => run_results hr rfl, rfl, ?_⟩
        exact Below.put (Below.put hb0E q2 (fun i e => by have := hb.size; omega)) (kp_putObj (r := D) (.deferred none)) (fun k e => by have := hb0E.size; omega)
    · rw [if_neg (by simp [hA]), decide_eq_false hA]
      (repeat (first | with_reducible refine Ops.nil ?_ | refine z_p (kk := ?_) | refine z_y (kk := ?_)))
      refine W.condT rfl (by first | rfl | assumption | (simp only [bnf] <;> omega) | (simp only [*, bnf]; done) | fail) ?_
      (repeat (first | with_reducible refine W.seq ?_ | with_reducible refine Ops.nil ?_ | with_reducible refine W.region ?_ | refine z_p (kk := ?_)))
      exact W.fret rfl ⟨rfl, hb04⟩
end Go.Proofs.Ytehjmakiljhjdaa
namespace Go.Proofs.Ytehjmakiljhjdaa
open Go Go.RowKit Go.Proofs.Ytehjmakiljhjdaa.VW
attribute [local irreducible] W Ops OrdA VW.Ord OrdX
theorem refBefore_c {w : World} {av bv : Value} {a b : List Int} (ha : SlI w av a) (hb : SlI w bv b) (hab : a.length = b.length) : Calls Try.prog 75 #[av, bv] w (Ret fun r w' => r = .bool (lexB a b) ∧ Below w.heap.size w w') := by
  have hal := Sl.len ha
  obtain ⟨Aa, ca, rfl⟩ := Sl.shape ha
  obtain ⟨Ab, cb, rfl⟩ := Sl.shape hb
  refine calls_W (vs := [_, _]) Try.func75 rfl (by kernel_rfl) rfl ?_
  (repeat (first | with_reducible refine W.seq ?_ | with_reducible refine Ops.nil ?_ | with_reducible refine W.region ?_ | refine z_p (kk := ?_) | with_reducible refine W.block ?_))
  refine W.loop (fun m ρ w1 => ∃ (i : Nat), m = a.length - i ∧ i ≤ a.length ∧ Below w.heap.size w w1 ∧ ρ = [(0, .slice Aa a.length ca), (1, .slice Ab b.length cb), (5, .int .i64 i)] ∧ ∀ q, q < i → a.getD q 0 = b.getD q 0)
    ⟨_, _, ⟨0, rfl, Nat.zero_le _, Below.refl _ _, rfl, fun q hq => by omega⟩, (by repeat (first | exact trivial | refine And.intro rfl ?_))⟩ ?_
  rintro m ρ w1 ⟨i, rfl, hi, hb1, rfl, heq⟩
  (repeat (first | with_reducible refine W.seq ?_ | with_reducible refine Ops.nil ?_ | with_reducible refine W.region ?_ | refine z_p (kk := ?_) | refine z_l (kk := ?_)))
  (first | refine W.condD rfl (fun hc => ?_) (fun hc => ?_) | refine W.condE rfl (fun hc => ?_) (fun hc => ?_) | refine W.condN rfl (fun hc => ?_) (fun hc => ?_) | refine W.cond rfl (fun hc => ?_) (fun hc => ?_))
  · have hil : i < a.length := by omega
    (repeat (first | with_reducible refine W.seq ?_ | with_reducible refine W.skip ?_ | with_reducible refine W.block ?_))
    refine W.ordA 99 [(0, 1), (1, 1), (2, 1), (3, 2), (4, 1), (5, 1), (6, 1), (7, 2), (8, 1)] rfl (by kernel_rfl) rfl (by kernel_rfl) (fun _ _ _ h => h) ?_
    (repeat (first | refine x_p (kk := ?_) | refine x_I (kk := fun _ => ?_)))
    refine OrdA.nil (fun w2 hb2 => ?_)
    have hb02 := Below.via hb1 hb2
    by_cases hz : a.getD i 0 = b.getD i 0
    · skip
      refine W.condF rfl (by first | rfl | assumption | (simp only [bnf] <;> omega) | (simp only [*, bnf]; done) | fail) ?_
      (repeat (first | with_reducible refine Ops.nil ?_ | with_reducible refine W.region ?_ | refine z_p (kk := ?_) | refine z_a (kk := ?_) | with_reducible refine W.skip ?_ | with_reducible refine W.endb ?_))
      exact W.endl ⟨_, _, ⟨⟨i + 1, rfl, by omega, hb02, rfl, fun q hq => by
        by_cases e : q = i
        · rw [e]; exact hz
        · exact heq q (by omega)⟩, by omega⟩, (by repeat (first | exact trivial | refine And.intro rfl ?_))⟩
    · skip
      refine W.condT rfl (by first | rfl | assumption | (simp only [bnf] <;> omega) | (simp only [*, bnf]; done) | fail) ?_
      (repeat (first | with_reducible refine W.seq ?_))
      refine W.ordA 99 [(0, 1), (1, 1), (2, 1), (3, 2), (4, 1), (5, 1), (6, 1), (7, 2), (8, 1), (9, 1)] rfl (by kernel_rfl) rfl (by kernel_rfl) (fun _ _ _ h => h) ?_
      (repeat (first | refine x_p (kk := ?_) | refine x_I (kk := fun _ => ?_)))
      refine OrdA.nil (fun w3 hb3 => ?_)
      skip
      refine W.fret rfl ⟨?_, Below.via hb02 hb3⟩
      show Value.bool _ = _
      congr 1
      have hne : cmI (a.getD i 0) (b.getD i 0) ≠ 0 := fun h => hz (cmI_zero.1 h)
      have h1 := slC_at heq hil (by omega) hne
      have h2 := (slC_lex a b).1
      rw [h1, cmI_neg] at h2
      rw [Bool.eq_iff_iff, ← h2, decide_eq_true_eq]
  · have hil : i = a.length := by omega
    subst hil
    (repeat (first | with_reducible refine W.seq ?_ | with_reducible refine Ops.nil ?_ | with_reducible refine W.region ?_ | refine z_p (kk := ?_) | refine W.exit rfl ?_))
    refine W.fret rfl ⟨?_, hb1⟩
    rw [list_ext hab (fun q hq => heq q hq), lexB_irr]
    rfl
theorem take_succL {L : List (List Int)} {i : Nat} (h : i < L.length) : L.take (i + 1) = L.take i ++ [L.getD i []] := by
  rw [List.take_succ_eq_append_getElem h]
  simp [List.getD_eq_getElem?_getD, h]
set_option maxHeartbeats 1000000 in
theorem refIndex_c {w : World} {cv av : Value} {c : List (List Int)} {x : List Int} (hM : RowsM w cv c) (hC : Cst c) (hx : SlI w av x) (hA : Asg x c.length) : Calls Try.prog 44 #[cv, av] w (Ret fun r w' => r = .int .i64 (cnL (beT c x) (allL c.length) : Nat) ∧ Below w.heap.size w w') := by
  have hn7 := hC.n7
  have hL := levL_lt (n := c.length) (i := c.length) hn7 hn7
  change (allL c.length).length ≤ 823543 at hL
  have hxl := hA.1
  obtain ⟨Ac, cc, rfl⟩ := hM.sl
  obtain ⟨Ax, cx, rfl⟩ := Sl.shape hx
  refine calls_W (vs := [_, _]) Try.func44 rfl (by kernel_rfl) rfl ?_
  (repeat (first | with_reducible refine W.seq ?_ | with_reducible refine Ops.nil ?_ | with_reducible refine W.region ?_ | refine z_p (kk := ?_) | refine z_l (kk := ?_)))
  refine Ops.call rfl rfl rfl rfl rfl (All_c hn7) (fun r w1 hR => ?_)
  obtain ⟨lvs, hR⟩ := hR
  have hb1 := hR.o.bel
  have hML := hR.rowsM
  obtain ⟨AL, cL, rfl⟩ := hML.sl
  have hrow : ∀ i : Nat, row (allL c.length) i = (allL c.length).getD i [] := fun i => by simp [row]
  have hasg : ∀ i : Nat, i < (allL c.length).length → Asg (row (allL c.length) i) c.length := fun i hi => by rw [hrow]; exact all_asg hi
  (repeat (first | with_reducible refine W.seq ?_ | with_reducible refine Ops.nil ?_ | with_reducible refine W.region ?_ | refine z_p (kk := ?_)))
  refine Ops.call rfl rfl rfl rfl rfl (refTotal_c (hM.below hb1) hC (Sl.below hx hb1) (fun q hq => (hA.2 q hq).1) (by rw [hxl]; exact Nat.le_refl _)) (fun r w2 hR2 => ?_)
  obtain ⟨rfl, hb2⟩ := hR2
  rw [show totP c x x.length = totP c x c.length by rw [hxl]]
  have hb02 := Below.via hb1 hb2
  (repeat (first | with_reducible refine W.seq ?_ | with_reducible refine Ops.nil ?_ | with_reducible refine W.region ?_ | refine z_p (kk := ?_) | with_reducible refine W.block ?_))
  refine W.loop (fun m ρ w3 => ∃ (i : Nat), m = (allL c.length).length - i ∧ i ≤ (allL c.length).length ∧ ρ = [(0, .slice Ac c.length cc), (1, .slice Ax x.length cx), (5, .slice AL (allL c.length).length cL), (6, .int .i64 (totP c x c.length)), (7, .int .i64 (cnL (beT c x) ((allL c.length).take i) : Nat)), (8, .int .i64 i)] ∧ Below w1.heap.size w1 w3)
    ⟨_, _, ⟨0, rfl, Nat.zero_le _, rfl, hb2⟩, (by repeat (first | exact trivial | refine And.intro rfl ?_))⟩ ?_
  rintro m ρ w3 ⟨i, rfl, hi, rfl, hb3⟩
  have hb03 := Below.via hb1 hb3
  (repeat (first | with_reducible refine W.seq ?_ | with_reducible refine Ops.nil ?_ | with_reducible refine W.region ?_ | refine z_p (kk := ?_) | refine z_l (kk := ?_)))
  (first | refine W.condD rfl (fun hc => ?_) (fun hc => ?_) | refine W.condE rfl (fun hc => ?_) (fun hc => ?_) | refine W.condN rfl (fun hc => ?_) (fun hc => ?_) | refine W.cond rfl (fun hc => ?_) (fun hc => ?_))
  · have hil : i < (allL c.length).length := by omega
    have hai := hasg i hil
    have hcl := cnL_le (beT c x) ((allL c.length).take i)
    rw [List.length_take] at hcl
    have hsn := cnL_snoc (beT c x) ((allL c.length).take i) (row (allL c.length) i)
    rw [hrow, ← take_succL hil] at hsn
    have hbe : beT c x ((allL c.length).getD i []) = (decide (totP c (row (allL c.length) i) c.length < totP c x c.length) || (decide (totP c (row (allL c.length) i) c.length = totP c x c.length) && lexB (row (allL c.length) i) x)) := by rw [hrow]; rfl
    (repeat (first | with_reducible refine W.seq ?_ | with_reducible refine W.region ?_ | refine z_p (kk := ?_) | with_reducible refine W.skip ?_ | with_reducible refine W.block ?_ | refine z_r (kk := fun _ _ _ _ => ?_)))
    rename_i Ai mi _ hsi
    refine Ops.call rfl rfl rfl rfl rfl (refTotal_c (hM.below hb03) hC (Sl.below hsi hb3) (fun q hq => (hai.2 q hq).1) (by rw [hai.1]; exact Nat.le_refl _)) (fun r w4 hR => ?_)
    obtain ⟨rfl, hb4⟩ := hR
    have hb14 := Below.via hb3 hb4
    have hb04 := Below.via hb1 hb14
    rw [show totP c (row (allL c.length) i) (row (allL c.length) i).length = totP c (row (allL c.length) i) c.length by rw [hai.1]]
    have yes : ∀ {w5 : World}, Below w1.heap.size w1 w5 → beT c x ((allL c.length).getD i []) = true → Below w1.heap.size w1 w5 ∧ cnL (beT c x) ((allL c.length).take (i + 1)) = cnL (beT c x) ((allL c.length).take i) + 1 := fun hb h => ⟨hb, by rw [hsn, h, if_pos rfl]⟩
    by_cases h1 : totP c (row (allL c.length) i) c.length < totP c x c.length
    · rw [decide_eq_true h1, Bool.true_or] at hbe
      rw [hbe, if_pos rfl] at hsn
      (repeat (first | with_reducible refine W.seq ?_ | with_reducible refine Ops.nil ?_ | with_reducible refine W.region ?_ | refine z_p (kk := ?_) | refine z_n (kk := ?_) | refine z_u (kk := ?_) | refine z_g (kk := ?_)))
      refine W.condT rfl (by first | rfl | assumption | (simp only [bnf] <;> omega) | (simp only [*, bnf]; done) | fail) ?_
      (repeat (first | with_reducible refine Ops.nil ?_ | with_reducible refine W.region ?_ | refine z_p (kk := ?_) | refine z_a (kk := ?_) | with_reducible refine W.endb ?_))
      refine W.endl ⟨_, _, ⟨⟨i + 1, rfl, by omega, rfl, hb14⟩, by omega⟩, ?_⟩
      rw [hsn]
      exact (by repeat (first | exact trivial | refine And.intro rfl ?_))
    · rw [decide_eq_false h1, Bool.false_or] at hbe
      by_cases h2 : totP c (row (allL c.length) i) c.length = totP c x c.length
      · rw [decide_eq_true h2, Bool.true_and] at hbe
        (repeat (first | with_reducible refine W.seq ?_ | with_reducible refine Ops.nil ?_ | with_reducible refine W.region ?_ | refine z_p (kk := ?_) | refine z_y (kk := ?_) | refine z_r (kk := fun _ _ _ _ => ?_) | refine z_h (kk := ?_)))
        rename_i Aj mj _ hsj
        refine Ops.call rfl rfl rfl rfl rfl (refBefore_c (Sl.below hsj hb14) (Sl.below hx hb04) (by rw [hai.1, hxl])) (fun r w5 hR => ?_)
        obtain ⟨rfl, hb5⟩ := hR
        have hb15 := Below.via hb14 hb5
        cases hlx : lexB (row (allL c.length) i) x with
        | true =>
          rw [hlx] at hbe
          rw [hbe, if_pos rfl] at hsn
          (repeat (first | with_reducible refine Ops.nil ?_ | refine z_p (kk := ?_) | refine z_y (kk := ?_)))
          refine W.condT rfl (by first | rfl | assumption | (simp only [bnf] <;> omega) | (simp only [*, bnf]; done) | fail) ?_
          (repeat (first | with_reducible refine Ops.nil ?_ | with_reducible refine W.region ?_ | refine z_p (kk := ?_) | refine z_a (kk := ?_) | with_reducible refine W.endb ?_))
          refine W.endl ⟨_, _, ⟨⟨i + 1, rfl, by omega, rfl, hb15⟩, by omega⟩, ?_⟩
          rw [hsn]
          exact (by repeat (first | exact trivial | refine And.intro rfl ?_))
        | false =>
          rw [hlx] at hbe
          rw [hbe, if_neg (by simp)] at hsn
          (repeat (first | with_reducible refine Ops.nil ?_ | refine z_p (kk := ?_) | refine z_y (kk := ?_)))
          refine W.condF rfl (by first | rfl | assumption | (simp only [bnf] <;> omega) | (simp only [*, bnf]; done) | fail) ?_
          (repeat (first | with_reducible refine Ops.nil ?_ | with_reducible refine W.region ?_ | refine z_p (kk := ?_) | refine z_a (kk := ?_) | with_reducible refine W.skip ?_ | with_reducible refine W.endb ?_))
          refine W.endl ⟨_, _, ⟨⟨i + 1, rfl, by omega, rfl, hb15⟩, by omega⟩, ?_⟩
          rw [hsn]
          exact (by repeat (first | exact trivial | refine And.intro rfl ?_))
      · rw [decide_eq_false h2, Bool.false_and] at hbe
        rw [hbe, if_neg (by simp)] at hsn
        (repeat (first | with_reducible refine W.seq ?_ | with_reducible refine Ops.nil ?_ | with_reducible refine W.region ?_ | refine z_p (kk := ?_) | refine z_y (kk := ?_) | refine z_n (kk := ?_) | refine z_g (kk := ?_) | refine z_h (kk := ?_)))
        refine W.condF rfl (by first | rfl | assumption | (simp only [bnf] <;> omega) | (simp only [*, bnf]; done) | fail) ?_
        (repeat (first | with_reducible refine Ops.nil ?_ | with_reducible refine W.region ?_ | refine z_p (kk := ?_) | refine z_a (kk := ?_) | with_reducible refine W.skip ?_ | with_reducible refine W.endb ?_))
        refine W.endl ⟨_, _, ⟨⟨i + 1, rfl, by omega, rfl, hb14⟩, by omega⟩, ?_⟩
        rw [hsn]
        exact (by repeat (first | exact trivial | refine And.intro rfl ?_))
  · have hil : i = (allL c.length).length := by omega
    subst hil
    rw [List.take_length]
    (repeat (first | with_reducible refine W.seq ?_ | with_reducible refine Ops.nil ?_ | with_reducible refine W.region ?_ | refine z_p (kk := ?_) | refine W.exit rfl ?_))
    exact W.fret rfl ⟨rfl, hb03⟩
set_option maxHeartbeats 2000000 in
theorem indexesLaw_c {w : World} {mv lv : Value} {l : List (List Int)} {xs : List Int} (hm : ArgR w mv l) (hl : Arg w lv xs) :
    Calls Try.prog 9 #[mv, lv] w (Ret fun r w' => r = .bool true ∧ Below w.heap.size w w') := by
  refine calls_W (vs := [_, _]) Try.func9 rfl (by kernel_rfl) rfl ?_
  (repeat (first | with_reducible refine W.seq ?_ | with_reducible refine Ops.nil ?_ | with_reducible refine W.region ?_ | refine z_p (kk := ?_)))
  refine Ops.call rfl rfl rfl rfl rfl (table_c hm) (fun tv w1 hR => ?_)
  obtain ⟨cvs, hR⟩ := hR
  have hb1 := hR.o.bel
  have hM1 := hR.rowsM
  clear hR hm
  generalize tab l = c at *
  (repeat (first | refine z_p (kk := ?_)))
  refine Ops.call rfl rfl rfl rfl rfl (list_c (hl.below hb1)) (fun sv w2 hR2 => ?_)
  have hb02 := Below.via hb1 hR2.bel
  have hM2 := hM1.below hR2.bel
  have hS2 := oi_arg hR2
  clear hR2 hM1 hl
  generalize xs.take 8 = a at *
  obtain ⟨At, ct, rfl⟩ := hM2.sl
  (repeat (first | with_reducible refine W.seq ?_ | with_reducible refine Ops.nil ?_ | with_reducible refine W.region ?_ | refine z_p (kk := ?_)))
  refine Ops.call rfl rfl rfl rfl rfl (Index_c hM2 hS2) (fun r w3 hR3 => ?_)
  obtain ⟨rfl, hb3⟩ := hR3
  have hM3 := hM2.below hb3
  have hS3 := hS2.below hb3
  have hb03 := Below.via hb02 hb3
  cases hc : costsB c with
  | false =>
    rw [if_neg (by simp)]
    (repeat (first | with_reducible refine W.seq ?_ | with_reducible refine Ops.nil ?_ | with_reducible refine W.region ?_ | refine z_p (kk := ?_)))
    refine Ops.call rfl rfl rfl rfl rfl (refCosts_c hM3) (fun r w5 hR5 => ?_)
    obtain ⟨rfl, hb5⟩ := hR5
    rw [hc]
    (repeat (first | with_reducible refine Ops.nil ?_ | refine z_p (kk := ?_) | refine z_n (kk := ?_)))
    refine W.condT rfl (by first | rfl | assumption | (simp only [bnf] <;> omega) | (simp only [*, bnf]; done) | fail) ?_
    (repeat (first | with_reducible refine W.seq ?_ | with_reducible refine W.region ?_ | refine z_p (kk := ?_) | refine z_y (kk := ?_)))
    refine Ops.call rfl rfl rfl rfl rfl (awake_c _) (fun r w6 hR => ?_)
    obtain ⟨rfl, hb6⟩ := hR
    (repeat (first | with_reducible refine Ops.nil ?_ | refine z_p (kk := ?_)))
    exact W.fret rfl ⟨rfl, Below.via hb03 (Below.via hb5 hb6)⟩
  | true =>
    have hC := costs_iff.1 hc
    have hn7 := hC.n7
    simp only [true_and]
    by_cases hA : Asg a c.length
    · rw [if_pos hA]
      (repeat (first | with_reducible refine W.seq ?_ | with_reducible refine Ops.nil ?_ | with_reducible refine W.region ?_ | refine z_p (kk := ?_)))
      refine Ops.call rfl rfl rfl rfl rfl (refCosts_c hM3) (fun r w5 hR5 => ?_)
      obtain ⟨rfl, hb5⟩ := hR5
      rw [hc]
      have hM5 := hM3.below hb5
      have hS5 := hS3.below hb5
      (repeat (first | refine z_p (kk := ?_) | refine z_y (kk := ?_) | refine z_l (kk := ?_)))
      refine Ops.call rfl rfl rfl rfl rfl (refAsg_c hS5.1 (n := c.length) (by omega)) (fun r w6 hR6 => ?_)
      obtain ⟨rfl, hb6⟩ := hR6
      rw [decide_eq_true hA]
      have hM6 := hM5.below hb6
      (repeat (first | with_reducible refine Ops.nil ?_ | refine z_p (kk := ?_) | refine z_y (kk := ?_)))
      refine W.condF rfl (by first | rfl | assumption | (simp only [bnf] <;> omega) | (simp only [*, bnf]; done) | fail) ?_
      (repeat (first | with_reducible refine W.seq ?_ | with_reducible refine W.region ?_ | refine z_p (kk := ?_) | with_reducible refine W.skip ?_))
      refine Ops.call rfl rfl rfl rfl rfl (refIndex_c hM6 hC (Sl.below hS5.1 hb6) hA) (fun r w7 hR7 => ?_)
      obtain ⟨rfl, hb7⟩ := hR7
      (repeat (first | refine z_p (kk := ?_) | refine z_y (kk := ?_) | refine z_h (kk := ?_)))
      refine Ops.call rfl rfl rfl rfl rfl (awake_c _) (fun r w8 hR => ?_)
      obtain ⟨rfl, hb8⟩ := hR
      (repeat (first | with_reducible refine Ops.nil ?_ | refine z_p (kk := ?_)))
      exact W.fret rfl ⟨rfl, Below.via hb03 (Below.via hb5 (Below.via hb6 (Below.via hb7 hb8)))⟩
    · rw [if_neg hA]
      (repeat (first | with_reducible refine W.seq ?_ | with_reducible refine Ops.nil ?_ | with_reducible refine W.region ?_ | refine z_p (kk := ?_)))
      refine Ops.call rfl rfl rfl rfl rfl (refCosts_c hM3) (fun r w5 hR5 => ?_)
      obtain ⟨rfl, hb5⟩ := hR5
      rw [hc]
      have hS5 := hS3.below hb5
      (repeat (first | refine z_p (kk := ?_) | refine z_y (kk := ?_) | refine z_l (kk := ?_)))
      refine Ops.call rfl rfl rfl rfl rfl (refAsg_c hS5.1 (n := c.length) (by omega)) (fun r w6 hR6 => ?_)
      obtain ⟨rfl, hb6⟩ := hR6
      rw [decide_eq_false hA]
      (repeat (first | with_reducible refine Ops.nil ?_ | refine z_p (kk := ?_) | refine z_y (kk := ?_)))
      refine W.condT rfl (by first | rfl | assumption | (simp only [bnf] <;> omega) | (simp only [*, bnf]; done) | fail) ?_
      (repeat (first | with_reducible refine W.seq ?_ | with_reducible refine W.region ?_ | refine z_p (kk := ?_) | refine z_y (kk := ?_)))
      refine Ops.call rfl rfl rfl rfl rfl (awake_c _) (fun r w8 hR => ?_)
      obtain ⟨rfl, hb8⟩ := hR
      (repeat (first | with_reducible refine Ops.nil ?_ | refine z_p (kk := ?_)))
      exact W.fret rfl ⟨rfl, Below.via hb03 (Below.via hb5 (Below.via hb6 hb8))⟩
end Go.Proofs.Ytehjmakiljhjdaa
namespace Go.Proofs.Ytehjmakiljhjdaa.VW
open Go Go.RowKit
/-- A row is written in place. -/
theorem RW.wrow {w0 w w' : World} {ov : Value} {cvs : List Value} {n j : Nat} {T : Nat → List Int} {xs : List Int} (h : RW w0 w ov cvs n T) (hj : j < n) (hO : OI 3 (Value.int .i64) w0 w' (cvs.getD j undef) xs) (k : Kp (fun b => (cvs.getD j undef).ownBlock = some b) w w') :
    RW w0 w' ov cvs n (fun q => if q = j then xs else T q) := by
  refine ⟨h.o.kp k (fun i hi => ⟨(h.rows j hj).ge i hi, (h.apart j hj i hi).1⟩), h.len, fun q hq => ?_, h.apart⟩
  by_cases e : q = j
  · subst e; simp only [if_true]; exact hO
  · simp only [e, if_false]
    exact (h.rows q hq).kp k (fun i hi => ⟨(h.rows j hj).ge i hi, (h.apart j hj i hi).2 q hq e⟩)
end Go.Proofs.Ytehjmakiljhjdaa.VW
/- Plain: buttons and holes exchanged. -/
namespace Go.Proofs.Ytehjmakiljhjdaa
open Go Go.RowKit Go.Proofs.Ytehjmakiljhjdaa.VW
def trC (c : List (List Int)) : List (List Int) := (List.range c.length).map fun q => fl c.length fun x => eC c x q
theorem trC_len (c : List (List Int)) : (trC c).length = c.length := by simp [trC]
theorem trC_row {c : List (List Int)} {q : Nat} (h : q < c.length) : (trC c).getD q [] = fl c.length fun x => eC c x q := by simp [trC, List.getD_eq_getElem?_getD, h]
theorem trC_ent {c : List (List Int)} {q x : Nat} (hq : q < c.length) (hx : x < c.length) : eC (trC c) q x = eC c x q := by
  unfold eC
  rw [trC_row hq, fl_get hx]
  rfl
theorem trC_cst {c : List (List Int)} (hC : Cst c) : Cst (trC c) := by
  refine ⟨by rw [trC_len]; exact hC.n1, by rw [trC_len]; exact hC.n7, fun i hi => ?_, fun i j hi hj => ?_⟩
  · rw [trC_len] at hi ⊢
    rw [trC_row hi, fl_len]
  · rw [trC_len] at hi hj
    have := trC_ent hi hj
    unfold eC at this
    rw [this]
    exact hC.bd j i hj hi
theorem row_fl {c : List (List Int)} (hC : Cst c) {q : Nat} (hq : q < c.length) : c.getD q [] = fl c.length (eC c q) := by
  have h := fl_self (c.getD q [])
  rw [hC.len q hq] at h
  exact h.symm
theorem trC_trC {c : List (List Int)} (hC : Cst c) : trC (trC c) = c := by
  refine List.ext_getElem (by rw [trC_len, trC_len]) fun q h1 h2 => ?_
  have hq : q < (trC c).length := by rw [trC_len] at h1; exact h1
  have h3 := trC_row (c := trC c) hq
  have h4 := row_fl hC h2
  have e1 : (trC (trC c)).getD q [] = (trC (trC c))[q] := by simp [List.getD_eq_getElem?_getD, h1]
  have e2 : c.getD q [] = c[q] := by simp [List.getD_eq_getElem?_getD, h2]
  rw [← e1, ← e2, h3, h4, trC_len]
  exact fl_congr fun x hx => trC_ent hx h2
/-- What undoes an assignment. -/
def Inv (a b : List Int) (n : Nat) : Prop := b.length = n ∧ ∀ q, q < n → b.getD (funA a q) 0 = (q : Int)
theorem asg_sur {a : List Int} {n : Nat} (h : Asg a n) {x : Nat} (hx : x < n) : ∃ q, q < n ∧ funA a q = x := by
  have := cover (n := n) (l := (List.range n).map (funA a)) (map_inj_nodup (asg_inj h)) (fun y hy => by
    obtain ⟨i, hi, rfl⟩ := List.mem_map.1 hy
    exact (h.funA (List.mem_range.1 hi)).2) (by simp) hx
  obtain ⟨q, hq, e⟩ := List.mem_map.1 this
  exact ⟨q, List.mem_range.1 hq, e⟩
theorem Inv.asg {a b : List Int} {n : Nat} (ha : Asg a n) (h : Inv a b n) : Asg b n := by
  have key : ∀ x, x < n → ∃ q : Nat, q < n ∧ funA a q = x ∧ b.getD x 0 = (q : Int) := fun x hx => by
    obtain ⟨q, hq, e⟩ := asg_sur ha hx
    exact ⟨q, hq, e, by rw [← e]; exact h.2 q hq⟩
  refine ⟨h.1, fun i hi => ?_⟩
  rw [h.1] at hi
  obtain ⟨q, hq, e1, e2⟩ := key i hi
  refine ⟨by omega, fun k hk e => ?_⟩
  obtain ⟨p, hp, e3, e4⟩ := key k (by omega)
  rw [e2, e4] at e
  have : p = q := by omega
  subst this
  omega
theorem Inv.sym {a b : List Int} {n : Nat} (ha : Asg a n) (h : Inv a b n) : Inv b a n := by
  refine ⟨ha.1, fun x hx => ?_⟩
  obtain ⟨q, hq, e⟩ := asg_sur ha hx
  have h2 := h.2 q hq
  rw [e] at h2
  have : funA b x = q := by unfold funA; omega
  rw [this, (ha.funA hq).1, e]
theorem inv_ex {a : List Int} {n : Nat} (ha : Asg a n) : ∃ b, Inv a b n := by
  have hx : ∀ x : Nat, ∃ q : Nat, x < n → q < n ∧ funA a q = x := fun x => by
    by_cases h : x < n
    · obtain ⟨q, hq, e⟩ := asg_sur ha h
      exact ⟨q, fun _ => ⟨hq, e⟩⟩
    · exact ⟨0, fun e => absurd e h⟩
  obtain ⟨f, hf⟩ := Classical.axiomOfChoice hx
  refine ⟨lstF n f, lstF_len _ _, fun q hq => ?_⟩
  have hq2 := (ha.funA hq).2
  rw [lstF_get hq2]
  have := (hf _ hq2)
  have := asg_inj ha _ _ this.1 hq this.2
  omega
theorem inv_uniq {a a' b : List Int} {n : Nat} (ha : Asg a n) (ha' : Asg a' n) (h : Inv a b n) (h' : Inv a' b n) : a = a' := by
  have s := h.sym ha
  have s' := h'.sym ha'
  have hb := h.asg ha
  refine list_ext (by rw [ha.1, ha'.1]) fun i hi => ?_
  rw [ha.1] at hi
  obtain ⟨q, hq, e⟩ := asg_sur hb hi
  rw [← e, s.2 q hq, s'.2 q hq]
theorem turn_tot {c : List (List Int)} {a b : List Int} (ha : Asg a c.length) (h : Inv a b c.length) : totP (trC c) b c.length = totP c a c.length := by
  have hb := h.asg ha
  have e1 : totP (trC c) b c.length = sN (fun x => eC c (funA b x) x) c.length := by
    rw [totP_sN]
    exact sN_congr _ (fun x hx => trC_ent hx (hb.funA hx).2)
  rw [e1, totP_sN, ← sN_asg (g := fun x => eC c (funA b x) x) ha]
  refine sN_congr _ (fun q hq => ?_)
  have : funA b (funA a q) = q := by have := h.2 q hq; unfold funA at *; omega
  rw [this]
theorem turn_min_ {c : List (List Int)} (hC : Cst c) : minT (trC c) ≤ minT c := by
  obtain ⟨a, ha, e⟩ := min_att (c := c)
  obtain ⟨b, hb⟩ := inv_ex ha
  have h1 := turn_tot ha hb
  have h2 := min_le (c := trC c) (a := b) (by rw [trC_len]; exact hb.asg ha)
  rw [trC_len] at h2
  omega
theorem turn_min {c : List (List Int)} (hC : Cst c) : minT (trC c) = minT c := by
  have h1 := turn_min_ hC
  have h2 := turn_min_ (trC_cst hC)
  rw [trC_trC hC] at h2
  omega
theorem turn_ok {c : List (List Int)} {a b : List Int} {y : Int} (ha : Asg a c.length) (h : Inv a b c.length) (hk : OkA c y a) : OkA (trC c) y b := by
  have hb := h.asg ha
  refine ⟨by rw [trC_len]; exact hb, fun x hx => ?_⟩
  rw [trC_len] at hx
  have e : costA (trC c) b x = eC c (funA b x) x := trC_ent hx (hb.funA hx).2
  rw [e]
  have hs := (h.sym ha).2 x hx
  have := hk.2 (funA b x) (hb.funA hx).2
  have e2 : costA c a (funA b x) = eC c (funA b x) (funA a (funA b x)) := rfl
  rw [e2] at this
  have e3 : funA a (funA b x) = x := by unfold funA at hs ⊢; omega
  rw [e3] at this
  exact this
theorem turn_wid_ {c : List (List Int)} (hC : Cst c) {a b a' b' : List Int} {x x' : Int} (h : NarS c a x b) (h' : NarS (trC c) a' x' b') : x' ≤ x := by
  obtain ⟨d, hd⟩ := inv_ex h.ok.1
  have hk := turn_ok h.ok.1 hd h.ok
  have h1 := h'.min (trC_cst hC) hk.1
  have h2 := (okA_iff (c := trC c) (by rw [trC_len]; have := hC.n1; omega) hk.1).1 hk
  omega
theorem turn_wid {c : List (List Int)} (hC : Cst c) {a b a' b' : List Int} {x x' : Int} (h : NarS c a x b) (h' : NarS (trC c) a' x' b') : x = x' := by
  have h1 := turn_wid_ hC h h'
  have h2 := turn_wid_ (trC_cst hC) h' (by rw [trC_trC hC]; exact h)
  omega
theorem turn_cnt_ {c : List (List Int)} (s : Int) : cnL (leT c s) (allL c.length) ≤ cnL (leT (trC c) s) (allL c.length) := by
  unfold cnL
  have hx : ∀ a : List Int, ∃ b : List Int, Asg a c.length → Inv a b c.length := fun a => by
    by_cases h : Asg a c.length
    · obtain ⟨b, hb⟩ := inv_ex h; exact ⟨b, fun _ => hb⟩
    · exact ⟨[], fun e => absurd e h⟩
  obtain ⟨f, hf⟩ := Classical.axiomOfChoice hx
  have hm : ∀ a, a ∈ (allL c.length).filter (leT c s) → Asg a c.length ∧ totP c a c.length ≤ s := fun a ha => by
    obtain ⟨h1, h2⟩ := List.mem_filter.1 ha
    exact ⟨mem_allL.1 h1, by unfold leT at h2; simpa using h2⟩
  have hnd : ((allL c.length).filter (leT c s)).Nodup := (allL_nodup (n := c.length)).sublist List.filter_sublist
  have := nodup_sub (((allL c.length).filter (leT c s)).map f) ((allL c.length).filter (leT (trC c) s)) (by
    refine List.pairwise_map.2 (List.Pairwise.imp_of_mem (fun {x y} hx hy hne e => hne ?_) hnd)
    have h1 := hf x (hm x hx).1
    have h2 := hf y (hm y hy).1
    rw [e] at h1
    exact inv_uniq (hm x hx).1 (hm y hy).1 h1 h2) (fun b hb => by
    obtain ⟨a, ha, rfl⟩ := List.mem_map.1 hb
    obtain ⟨h1, h2⟩ := hm a ha
    have hi := hf a h1
    refine List.mem_filter.2 ⟨mem_allL.2 (hi.asg h1), ?_⟩
    unfold leT
    rw [trC_len, turn_tot h1 hi]
    simpa using h2)
  simpa using this
theorem turn_cnt {c : List (List Int)} (hC : Cst c) (s : Int) : cnL (leT c s) (allL c.length) = cnL (leT (trC c) s) (allL c.length) := by
  have h1 := turn_cnt_ (c := c) s
  have h2 := turn_cnt_ (c := trC c) s
  rw [trC_trC hC, trC_len] at h2
  omega
end Go.Proofs.Ytehjmakiljhjdaa
namespace Go.Proofs.Ytehjmakiljhjdaa
open Go Go.RowKit Go.Proofs.Ytehjmakiljhjdaa.VW
attribute [local irreducible] W Ops OrdA VW.Ord OrdX
/-- The copy of a table, all of it the call's own. -/
theorem table_w {w : World} {v : Value} {c : List (List Int)} (h : ArgR w v c) (hC : Cst c) : Calls Try.prog 16 #[v] w (Ret fun r w' => ∃ cvs, RW w w' r cvs c.length (fun q => c.getD q [])) := by
  have hll := h.1.1
  have hn7 := hC.n7
  obtain ⟨At, ct, rfl⟩ := h.1.sl
  refine calls_W (vs := [_]) Try.func16 rfl (by kernel_rfl) rfl ?_
  (repeat (first | with_reducible refine W.seq ?_ | with_reducible refine Ops.nil ?_ | with_reducible refine W.region ?_ | refine z_p (kk := ?_) | with_reducible refine W.block ?_))
  refine W.loop (fun m ρ w3 => ∃ (i : Nat) (ov : Value) (cvs : List Value), m = c.length - i ∧ i ≤ c.length ∧ ρ = [(0, .slice At c.length ct), (3, ov), (4, .int .i64 i)] ∧ RW w w3 ov cvs i (fun q => c.getD q []))
    ⟨_, _, ⟨0, _, _, rfl, Nat.zero_le _, rfl, RW.nil (Below.refl _ _)⟩, (by repeat (first | exact trivial | refine And.intro rfl ?_))⟩ ?_
  rintro m ρ w3 ⟨i, ov, cvs, rfl, hi, rfl, hO⟩
  have hb3 := hO.o.bel
  have hcl := hO.len
  by_cases hgo : i < c.length
  · have hlen := hC.len i hgo
    have hrow : row c (i : Int) = c.getD i [] := by simp [row]
    (repeat (first | with_reducible refine W.seq ?_ | with_reducible refine Ops.nil ?_ | with_reducible refine W.region ?_ | refine z_p (kk := ?_) | refine z_y (kk := ?_) | refine z_l (kk := ?_) | refine z_h (kk := ?_)))
    refine W.condT rfl (by first | rfl | assumption | (simp only [bnf] <;> omega) | (simp only [*, bnf]; done) | fail) ?_
    (repeat (first | with_reducible refine W.seq ?_ | with_reducible refine W.region ?_ | refine z_p (kk := ?_) | with_reducible refine W.skip ?_ | with_reducible refine W.block ?_))
    refine z_R (kk := fun A' m' p hsl hcap => ?_)
    refine Ops.call rfl rfl rfl rfl rfl (list_c ⟨Sl.below hsl hO.o.bel, _, _, rfl, hcap⟩) (fun r w5 hR => ?_)
    have htk : (row c (i : Int)).take 8 = c.getD i [] := by rw [hrow, List.take_of_length_le (by omega)]
    rw [htk] at hR
    have hO5 := hO.below hR.bel
    have hr1 : r.oneCell' = true := by obtain ⟨A, c, rfl⟩ := hR.sh; rfl
    refine Ops.pushO (enc := fun v : Value => v) (u := r) rfl rfl rfl rfl rfl rfl rfl rfl rfl rfl rfl rfl (fun _ => rfl) hr1 hO5.o (by omega) (fun lv' p w6 hO6 k6 hn6 => ?_)
    have hO7 := hO.push hR hO6 k6 hn6
    (repeat (first | with_reducible refine Ops.nil ?_ | with_reducible refine W.region ?_ | refine z_p (kk := ?_) | refine z_a (kk := ?_) | with_reducible refine W.endb ?_))
    exact W.endl ⟨_, _, ⟨⟨i + 1, lv', cvs ++ [r], rfl, by omega, rfl, hO7⟩, by omega⟩, (by repeat (first | exact trivial | refine And.intro rfl ?_))⟩
  · have hil : i = c.length := by omega
    subst hil
    (repeat (first | with_reducible refine W.seq ?_ | with_reducible refine Ops.nil ?_ | with_reducible refine W.region ?_ | refine z_p (kk := ?_) | refine z_n (kk := ?_) | refine z_l (kk := ?_) | refine z_g (kk := ?_)))
    refine W.condF rfl (by first | rfl | assumption | (simp only [bnf] <;> omega) | (simp only [*, bnf]; done) | fail) ?_
    (repeat (first | with_reducible refine W.seq ?_ | with_reducible refine Ops.nil ?_ | with_reducible refine W.region ?_ | refine z_p (kk := ?_) | refine W.exit rfl ?_))
    exact W.fret rfl ⟨cvs, hO⟩
/-- Exchanged up to the pair i, j. -/
def tuC (c : List (List Int)) (i j q : Nat) : List Int := fl c.length fun x => if x < i ∨ (x = i ∧ q < j) then eC c x q else eC c q x
theorem tuC_step {c : List (List Int)} {i j q : Nat} (hi : i < c.length) : (if q = j then (tuC c i j j).set i (eC c i j) else tuC c i j q) = tuC c i (j + 1) q := by
  by_cases e : q = j
  · subst e
    rw [if_pos rfl]
    unfold tuC
    rw [fl_set]
    refine fl_congr fun x hx => ?_
    by_cases e2 : x = i
    · subst e2; simp
    · have a1 : (x < i ∨ x = i ∧ q < q) = (x < i) := by apply propext; omega
      have a2 : (x < i ∨ x = i ∧ q < q + 1) = (x < i) := by apply propext; omega
      rw [if_neg e2]
      simp only [a1, a2]
  · rw [if_neg e]
    unfold tuC
    refine fl_congr fun x hx => ?_
    have a1 : (x < i ∨ x = i ∧ q < j) = (x < i ∨ x = i ∧ q < j + 1) := by apply propext; omega
    simp only [a1]
theorem tuC_next {c : List (List Int)} {i q : Nat} (hq : q < c.length) : tuC c i c.length q = tuC c (i + 1) 0 q := by
  unfold tuC
  refine fl_congr fun x hx => ?_
  have a1 : (x < i ∨ x = i ∧ q < c.length) = (x < i + 1 ∨ x = i + 1 ∧ q < 0) := by apply propext; omega
  simp only [a1]
theorem tuC_zero {c : List (List Int)} (hC : Cst c) {q : Nat} (hq : q < c.length) : c.getD q [] = tuC c 0 0 q := by
  rw [row_fl hC hq]
  unfold tuC
  refine fl_congr fun x hx => ?_
  rw [if_neg (by omega)]
theorem tuC_end {c : List (List Int)} {q : Nat} : tuC c c.length 0 q = fl c.length fun x => eC c x q := by
  unfold tuC
  refine fl_congr fun x hx => ?_
  rw [if_pos (.inl hx)]
set_option maxHeartbeats 8000000 in
set_option maxRecDepth 20000 in
theorem turnedLaw_c {w : World} {mv lv : Value} {n : Int} {l : List (List Int)} {by_ : List Int} (hm : ArgR w mv l) (hl : Arg w lv by_) :
    Calls Try.prog 8 #[.int .i64 n, mv, lv] w (Ret fun r w' => r = .bool true ∧ Below w.heap.size w w') := by
  refine calls_W (vs := [_, _, _]) Try.func8 rfl (by kernel_rfl) rfl ?_
  (repeat (first | with_reducible refine W.seq ?_ | with_reducible refine Ops.nil ?_ | with_reducible refine W.region ?_ | refine z_p (kk := ?_)))
  refine Ops.callS rfl rfl rfl rfl rfl (mod_c _ _ _ (by omega) (by omega)) ?_
  have hmb := modI_bd n (n := 6) (by omega)
  obtain ⟨n0, hn0⟩ := Int.eq_ofNat_of_zero_le hmb.1
  rw [hn0] at hmb ⊢
  (repeat (first | with_reducible refine W.seq ?_ | with_reducible refine Ops.nil ?_ | with_reducible refine W.region ?_ | refine z_p (kk := ?_) | refine z_a (kk := ?_)))
  rw [show (1 : Int) + ((n0 : Nat) : Int) = ((n0 + 1 : Nat) : Int) by omega]
  refine Ops.call rfl rfl rfl rfl rfl (tame_c hm.1 (n := n0 + 1) (by omega) (by omega) (by omega)) (fun tv w2 hR => ?_)
  obtain ⟨cvs, hR⟩ := hR
  have hb2 := hR.o.bel
  have hA2 := hR.argR
  change ArgR w2 tv (tmC l (n0 + 1) 1000) at hA2
  have hC := tmC_cst l (n := n0 + 1) (most := 1000) (by omega) (by omega) (by omega) (by omega)
  have hcl := tmC_len l (n0 + 1) 1000
  generalize tmC l (n0 + 1) 1000 = c at *
  clear hR
  have hcB : costsB c = true := costs_iff.2 hC
  have hn7 := hC.n7
  have hM2 := hA2.1
  obtain ⟨Ac, cc, rfl⟩ := hM2.sl
  (repeat (first | with_reducible refine W.seq ?_ | with_reducible refine Ops.nil ?_ | with_reducible refine W.region ?_ | refine z_p (kk := ?_)))
  refine Ops.call rfl rfl rfl rfl rfl (order_c (Sl.below hl.1 hb2) (n := n0 + 1) (by omega)) (fun av w3 hO => ?_)
  have hb3 := hO.bel
  have hAo := ordL_asg by_ (n0 + 1)
  generalize ordL by_ (n0 + 1) = a at *
  rw [← hcl] at hAo
  have hal := hAo.1
  have hb03 := Below.via hb2 hb3
  have hA3 : ArgR w3 (.slice Ac c.length cc) c := ⟨hM2.below hb3, fun i i0 i1 => by
    obtain ⟨a, k, A', k', e1, e2, e3, e4⟩ := hA2.2 i i0 i1
    exact ⟨a, k, A', k', e1, Sl.below e2 hb3, e3, fun w' hw => e4 w' (Below.via hb3 hw)⟩⟩
  have aA3 := oi_arg hO
  clear hO hA2
  obtain ⟨Aa, ca, rfl⟩ := Sl.shape aA3.1
  have sA3 := aA3.1
  (repeat (first | with_reducible refine W.seq ?_ | with_reducible refine Ops.nil ?_ | with_reducible refine W.region ?_ | refine z_p (kk := ?_)))
  refine Ops.call rfl rfl rfl rfl rfl (table_w hA3 hC) (fun dv w4 hR => ?_)
  obtain ⟨dvs, hD4⟩ := hR
  have hb4 := hD4.o.bel
  have hD4' := hD4.congr (fun q hq => tuC_zero hC hq)
  have hM3 := hA3.1
  obtain ⟨Ad, cd, rfl⟩ := hD4.o.sh
  have hdl := hD4.len
  rw [hdl] at hD4'
  rw [hdl]
  (repeat (first | with_reducible refine W.seq ?_ | with_reducible refine Ops.nil ?_ | with_reducible refine W.region ?_ | refine z_p (kk := ?_)))
  refine Ops.mkO (Value.int .i64) 0 (i := n0 + 1) (w0 := w4) rfl rfl rfl rfl rfl rfl rfl rfl rfl (by omega) rfl (Below.refl _ _) (fun w5 rb hB5 k5 hr5 => ?_)
  rw [← hcl, fl_zero] at hB5
  rw [← hcl]
  have hb45 := hB5.bel
  have hD5 := hD4'.below hb45
  (repeat (first | with_reducible refine W.seq ?_ | with_reducible refine Ops.nil ?_ | with_reducible refine W.region ?_ | refine z_p (kk := ?_) | with_reducible refine W.block ?_))
  refine W.loop (fun m ρ w6 => ∃ (i : Nat) (f : Nat → Int), m = c.length - i ∧ i ≤ c.length ∧ ρ = [(0, .int .i64 (c.length : Int)), (7, .slice Ac c.length cc), (8, .slice Aa a.length ca), (9, .slice Ad c.length cd), (10, .slice (some ⟨rb, 0, none⟩) c.length c.length), (11, .int .i64 i)] ∧ RW w3 w6 (.slice Ad c.length cd) dvs c.length (tuC c i 0) ∧ OI 3 (Value.int .i64) w3 w6 (.slice (some ⟨rb, 0, none⟩) c.length c.length) (fl c.length f) ∧ (∀ q, q < c.length → (dvs.getD q undef).ownBlock ≠ some rb) ∧ (Value.slice Ad c.length cd).ownBlock ≠ some rb ∧ ∀ q, q < i → f (funA a q) = (q : Int))
    ⟨_, _, ⟨0, _, rfl, Nat.zero_le _, rfl, hD5, hB5.up hb4, fun q hq e => by have := ((hD4'.rows q hq).own.lt rb e).2; omega, fun e => by have := (hD4'.o.own.lt rb e).2; omega, fun q hq => by omega⟩, (by repeat (first | exact trivial | refine And.intro rfl ?_))⟩ ?_
  rintro m ρ w6 ⟨i, f, rfl, hi, rfl, hD, hB, hapt, hapo, hf⟩
  have hb6 := hD.o.bel
  (repeat (first | with_reducible refine W.seq ?_ | with_reducible refine Ops.nil ?_ | with_reducible refine W.region ?_ | refine z_p (kk := ?_)))
  (first | refine W.condD rfl (fun hc => ?_) (fun hc => ?_) | refine W.condE rfl (fun hc => ?_) (fun hc => ?_) | refine W.condN rfl (fun hc => ?_) (fun hc => ?_) | refine W.cond rfl (fun hc => ?_) (fun hc => ?_))
  · have hil : i < c.length := by omega
    (repeat (first | with_reducible refine W.seq ?_ | with_reducible refine Ops.nil ?_ | with_reducible refine W.region ?_ | refine z_p (kk := ?_) | with_reducible refine W.skip ?_ | with_reducible refine W.block ?_))
    refine W.loop (fun m ρ w7 => ∃ (j : Nat), m = c.length - j ∧ j ≤ c.length ∧ ρ = [(0, .int .i64 (c.length : Int)), (7, .slice Ac c.length cc), (8, .slice Aa a.length ca), (9, .slice Ad c.length cd), (10, .slice (some ⟨rb, 0, none⟩) c.length c.length), (11, .int .i64 i), (12, .int .i64 j)] ∧ RW w3 w7 (.slice Ad c.length cd) dvs c.length (tuC c i j) ∧ OI 3 (Value.int .i64) w3 w7 (.slice (some ⟨rb, 0, none⟩) c.length c.length) (fl c.length f))
      ⟨_, _, ⟨0, rfl, Nat.zero_le _, rfl, hD, hB⟩, (by repeat (first | exact trivial | refine And.intro rfl ?_))⟩ ?_
    clear hD hB hb6
    rintro m ρ w7 ⟨j, rfl, hj, rfl, hD, hB⟩
    have hb7 := hD.o.bel
    (repeat (first | with_reducible refine W.seq ?_ | with_reducible refine Ops.nil ?_ | with_reducible refine W.region ?_ | refine z_p (kk := ?_)))
    (first | refine W.condD rfl (fun hc => ?_) (fun hc => ?_) | refine W.condE rfl (fun hc => ?_) (fun hc => ?_) | refine W.condN rfl (fun hc => ?_) (fun hc => ?_) | refine W.cond rfl (fun hc => ?_) (fun hc => ?_))
    · have hjl : j < c.length := by omega
      have hrowj := hD.rows j hjl
      have hr1 : (dvs.getD j undef).oneCell' = true := by obtain ⟨A, c, e⟩ := hrowj.sh; rw [e]; rfl
      have hrc : row c (i : Int) = c.getD i [] := by simp [row]
      have hcli := hC.len i hil
      rw [← hrc] at hcli
      (repeat (first | with_reducible refine W.seq ?_ | with_reducible refine W.region ?_ | refine z_p (kk := ?_) | with_reducible refine W.skip ?_ | with_reducible refine W.block ?_))
      refine Ops.rdBn (enc := fun v : Value => v) (z := undef) rfl rfl rfl rfl rfl rfl (fun _ => rfl) rfl rfl rfl rfl rfl rfl hD.o.sl (Below.refl _ _) (by omega) (fun _ => ?_)
      (repeat (first | with_reducible refine Ops.nil ?_ | with_reducible refine W.region ?_ | refine z_p (kk := ?_) | refine z_I (kk := fun _ => ?_) | refine z_r (kk := fun _ _ _ _ => ?_)))
      have hent : (row c (i : Int)).getD j 0 = eC c i j := by rw [hrc]; rfl
      refine Ops.wrO (enc := Value.int .i64) (u := (row c (i : Int)).getD j 0) rfl rfl rfl rfl rfl rfl rfl rfl rfl rfl rfl rfl (by simp) rfl hrowj (by unfold tuC; rw [fl_len]; omega) (fun w8 p hO8 k8 hs8 => ?_)
      have hD8 := (hD.wrow hjl hO8 k8).congr (T' := tuC c i (j + 1)) (fun q hq => by
        rw [hent]
        exact tuC_step hil)
      have hB8 := hB.kp k8 (fun b e => ⟨hrowj.ge b e, fun e2 => by have := own_r e2; subst this; exact hapt j hjl e⟩)
      (repeat (first | with_reducible refine Ops.nil ?_ | with_reducible refine W.region ?_ | refine z_p (kk := ?_) | refine z_a (kk := ?_) | with_reducible refine W.endb ?_))
      exact W.endl ⟨_, _, ⟨⟨j + 1, rfl, by omega, rfl, hD8, hB8⟩, by omega⟩, (by repeat (first | exact trivial | refine And.intro rfl ?_))⟩
    · have hjl : j = c.length := by omega
      subst hjl
      have hai := (hAo.2 i (by omega)).1
      have hfi := hAo.funA hil
      (repeat (first | with_reducible refine W.region ?_ | refine z_p (kk := ?_) | refine W.exit rfl ?_ | refine z_I (kk := fun _ => ?_)))
      refine Ops.wrOi (enc := Value.int .i64) (u := (i : Int)) rfl rfl rfl rfl rfl rfl rfl rfl rfl rfl rfl rfl (by simp) rfl hB (by omega) (by rw [fl_len]; omega) (fun w8 p hO8 k8 hs8 => ?_)
      rw [fl_set] at hO8
      have hD8 := (hD.congr (fun q hq => tuC_next hq)).kp k8 (fun b e => by
        have := own_r e
        subst this
        exact ⟨hB.ge _ rfl, hapo, hapt⟩)
      (repeat (first | with_reducible refine Ops.nil ?_ | with_reducible refine W.region ?_ | refine z_p (kk := ?_) | refine z_a (kk := ?_) | with_reducible refine W.endb ?_))
      refine W.endl ⟨_, _, ⟨⟨i + 1, _, rfl, by omega, rfl, hD8, hO8, hapt, hapo, fun q hq => ?_⟩, by omega⟩, (by repeat (first | exact trivial | refine And.intro rfl ?_))⟩
      by_cases e : q = i
      · subst e
        have e2 : funA a q = (a.getD q 0).toNat := rfl
        rw [if_pos e2]
      · have hne := hAo.ne (i := q) (q := i) (by omega) hil e
        have e2 : ¬ funA a q = (a.getD i 0).toNat := hne
        rw [if_neg e2]
        exact hf q (by omega)
  · have hil : i = c.length := by omega
    subst hil
    have hMd0 := (hD.congr (T' := fun q => fl c.length fun x => eC c x q) (fun q hq => tuC_end)).rowsM
    have hMd : RowsM w6 (.slice Ad c.length cd) (trC c) := hMd0
    have hbk : Inv a (fl c.length f) c.length := ⟨fl_len _ _, fun q hq => by rw [fl_get (hAo.funA hq).2]; exact hf q hq⟩
    have hbA := hbk.asg hAo
    have aB := oi_arg hB
    have hM6 := hM3.below hb6
    have aA6 := aA3.below hb6
    have hb06 := Below.via hb03 hb6
    have hCd := trC_cst hC
    have hcBd : costsB (trC c) = true := costs_iff.2 hCd
    have hdl2 := trC_len c
    have htt := turn_tot hAo hbk
    have hmin := turn_min hC
    have hle := min_le hAo
    clear hD hB hMd0 hD4 hD4' hD5 hB5 hM3 hA3 aA3
    generalize fl c.length f = bk at *
    (repeat (first | with_reducible refine W.seq ?_ | with_reducible refine W.region ?_ | refine z_p (kk := ?_) | refine W.exit rfl ?_))
    refine Ops.call rfl rfl rfl rfl rfl (Total_c hM6 aA6) (fun r x1 hR => ?_)
    obtain ⟨rfl, hx1⟩ := hR
    rw [if_pos ⟨hcB, hAo⟩]
    have hMd1 := hMd.below hx1
    have aB1 := aB.below hx1
    have hM1 := hM6.below hx1
    have g1 := Below.via hb06 hx1
    (repeat (first | with_reducible refine W.seq ?_ | with_reducible refine Ops.nil ?_ | with_reducible refine W.region ?_ | refine z_p (kk := ?_)))
    refine Ops.call rfl rfl rfl rfl rfl (Total_c hMd1 aB1) (fun r x2 hR => ?_)
    obtain ⟨rfl, hx2⟩ := hR
    rw [hdl2, if_pos ⟨hcBd, hbA⟩, htt]
    have hMd2 := hMd1.below hx2
    have hM2 := hM1.below hx2
    have g2 := Below.via g1 hx2
    (repeat (first | with_reducible refine W.seq ?_ | with_reducible refine Ops.nil ?_ | with_reducible refine W.region ?_ | refine z_p (kk := ?_)))
    refine Ops.call rfl rfl rfl rfl rfl (Best_c hM2) (fun r x3 hR => ?_)
    obtain ⟨hx3, -, hR⟩ := hR
    obtain ⟨pv, uv, vv, u, v, rfl, hp, -, -, -⟩ := hR hcB
    have aP3 := oi_arg hp
    clear hp
    have hMd3 := hMd2.below hx3
    have hM3 := hM2.below hx3
    have g3 := Below.via g2 hx3
    (repeat (first | with_reducible refine W.seq ?_ | with_reducible refine Ops.nil ?_ | with_reducible refine W.region ?_ | refine z_p (kk := ?_)))
    refine Ops.call rfl rfl rfl rfl rfl (Best_c hMd3) (fun r x4 hR => ?_)
    obtain ⟨hx4, -, hR⟩ := hR
    obtain ⟨qv, uv', vv', u', v', rfl, hq, -, -, -⟩ := hR hcBd
    have aQ4 := oi_arg hq
    clear hq
    have hMd4 := hMd3.below hx4
    have hM4 := hM3.below hx4
    have aP4 := aP3.below hx4
    have g4 := Below.via g3 hx4
    (repeat (first | with_reducible refine W.seq ?_ | with_reducible refine Ops.nil ?_ | with_reducible refine W.region ?_ | refine z_p (kk := ?_)))
    refine Ops.call rfl rfl rfl rfl rfl (Total_c hM4 aP4) (fun r x5 hR => ?_)
    obtain ⟨rfl, hx5⟩ := hR
    rw [if_pos ⟨hcB, firstS_Asg⟩, first_tot]
    have hMd5 := hMd4.below hx5
    have hM5 := hM4.below hx5
    have aQ5 := aQ4.below hx5
    have g5 := Below.via g4 hx5
    have hfq := first_tot (c := trC c)
    have hfA := firstS_Asg (c := trC c)
    (repeat (first | with_reducible refine W.seq ?_ | with_reducible refine Ops.nil ?_ | with_reducible refine W.region ?_ | refine z_p (kk := ?_)))
    refine Ops.call rfl rfl rfl rfl rfl (Total_c hMd5 aQ5) (fun r x6 hR => ?_)
    obtain ⟨rfl, hx6⟩ := hR
    rw [if_pos ⟨hcBd, hfA⟩, hfq, hmin]
    have hMd6 := hMd5.below hx6
    have hM6' := hM5.below hx6
    have g6 := Below.via g5 hx6
    (repeat (first | with_reducible refine W.seq ?_ | with_reducible refine Ops.nil ?_ | with_reducible refine W.region ?_ | refine z_p (kk := ?_)))
    refine Ops.call rfl rfl rfl rfl rfl (Narrow_c hM6') (fun r x7 hR => ?_)
    obtain ⟨hx7, -, hR⟩ := hR
    obtain ⟨nv, y, bv, na, nb, rfl, -, -, hN⟩ := hR hcB
    have hMd7 := hMd6.below hx7
    have hM7 := hM6'.below hx7
    have g7 := Below.via g6 hx7
    (repeat (first | with_reducible refine W.seq ?_ | with_reducible refine Ops.nil ?_ | with_reducible refine W.region ?_ | refine z_p (kk := ?_)))
    refine Ops.call rfl rfl rfl rfl rfl (Narrow_c hMd7) (fun r x8 hR => ?_)
    obtain ⟨hx8, -, hR⟩ := hR
    obtain ⟨nv', y', bv', na', nb', rfl, -, -, hN'⟩ := hR hcBd
    obtain rfl := turn_wid hC hN hN'
    have hMd8 := hMd7.below hx8
    have hM8 := hM7.below hx8
    have g8 := Below.via g7 hx8
    (repeat (first | with_reducible refine W.seq ?_ | with_reducible refine Ops.nil ?_ | with_reducible refine W.region ?_ | refine z_p (kk := ?_)))
    refine Ops.call rfl rfl rfl rfl rfl (Within_c hM8) (fun r x9 hR => ?_)
    obtain ⟨rfl, hx9⟩ := hR
    rw [if_pos hcB, turn_cnt hC]
    have hMd9 := hMd8.below hx9
    have g9 := Below.via g8 hx9
    (repeat (first | with_reducible refine W.seq ?_ | with_reducible refine Ops.nil ?_ | with_reducible refine W.region ?_ | refine z_p (kk := ?_)))
    refine Ops.call rfl rfl rfl rfl rfl (Within_c hMd9) (fun r x10 hR => ?_)
    obtain ⟨rfl, hx10⟩ := hR
    rw [if_pos hcBd, hdl2]
    have g10 := Below.via g9 hx10
    (repeat (first | with_reducible refine W.seq ?_ | with_reducible refine Ops.nil ?_ | with_reducible refine W.region ?_ | refine z_p (kk := ?_) | refine z_y (kk := ?_) | refine z_h (kk := ?_)))
    refine Ops.call rfl rfl rfl rfl rfl (awake_c _) (fun r x11 hR => ?_)
    obtain ⟨rfl, hx11⟩ := hR
    (repeat (first | with_reducible refine Ops.nil ?_ | refine z_p (kk := ?_)))
    exact W.fret rfl ⟨rfl, Below.via g10 hx11⟩
end Go.Proofs.Ytehjmakiljhjdaa
namespace Go.Proofs.Ytehjmakiljhjdaa
open Go Go.RowKit Go.Proofs.Ytehjmakiljhjdaa.VW
def DB (w w' : World) : Prop := Below w.heap.size w w' ∧ w.drawn ≤ w'.drawn
theorem DB.grow {w w' : World} (h : DB w w') : ∃ q os, w' = Go.Sort.grow (w.drewN q) os := by
  obtain ⟨hb, hd⟩ := h
  obtain ⟨k1, k2, k3, k4, k5⟩ := Kp.of_below (S := fun _ => False) hb
  refine ⟨w'.drawn - w.drawn, w'.heap.extract w.heap.size w'.heap.size, ?_⟩
  cases w
  cases w'
  simp only [Go.Sort.grow, World.drewN] at *
  subst k1 k2 k3
  simp only [World.mk.injEq, and_true, true_and]
  refine ⟨?_, by omega⟩
  refine Array.ext (by simp; omega) fun i h1 h2 => ?_
  rw [Array.getElem_append]
  split
  · rename_i hi
    have := k5 i hi (fun e => e)
    rw [Array.getElem?_eq_getElem h1, Array.getElem?_eq_getElem hi] at this
    exact Option.some.inj this
  · rename_i hi
    simp only [Array.getElem_extract]
    congr 1
    omega
theorem DB.same {P : Program} {f : FuncId} {args : Array Value} {v : Value} {a b : World} (hF : DB a b) (h : Calls P f args b (Ret fun r w' => r = v ∧ w' = b)) : Calls P f args b (Ret fun r w' => r = v ∧ DB a w') :=
  h.mono fun e w' ⟨r, he, hr, hb⟩ => ⟨r, he, hr, by rw [hb]; exact hF⟩
section
variable {P : Program} [hT : Tab P] {n : Nat} {ds : List Deferred} {Φ : Post} {k : List It} {ρ : E} {w : World} {all : Array Oper} {l : List Oper} {s : Nat} {F : World → Prop} {π : List (Nat × Nat)} {L : List Bool}
omit hT in
theorem W.ordD {id : Nat} {ops : Array Oper} (s : Nat) (π : List (Nat × Nat)) (hm : P.follows .mixedOrders = true) (hs : Region.noSelect ops = true) (hlen : π.length = ops.size) (hc : chkA ops s π (List.replicate π.length false) = true) (hΦ : ∀ c ρ w, ¬ Φ (.panic c) ρ w)
    (h : OrdA P n ds ops k Φ s (DB w) π (List.replicate π.length false) ρ) : W P n ds (.code (.region id ops true) :: k) Φ ρ w := by
  intro hi a hr hd
  refine wp_region_any hm ?_
  have := wpAny_of_A _ _ _ (h hc hs (by simpa [inB] using hi) (by rw [List.toArray_replicate]; exact Cl.start _) hΦ a hr hd) w.drew ⟨Kp.below (kp_drew w) (Nat.le_refl _) (fun _ _ e => e), Nat.le_succ _⟩
  rw [← hlen]
  rw [List.toArray_replicate] at this
  exact this
theorem Ops.bs2D {o : Oper} {d t e : Nat} {x y : Operand} {u v z : Value} (ho : o.op = .buildSlice t 2 #[(0, x), (1, y)]) (hd : o.dst = some d) (hg : o.guard = none)
    (ht : tyD P t = some (.slice e)) (hs : tyS P e = some 1) (hz : tyZ P e = some z) (hzs : z.cells.size = 1) (hx : ev ρ x = some u) (hy : ev ρ y = some v) (h1 : u.oneCell' = true) (h2 : v.oneCell' = true)
    (hk : ∀ w' r, Mk w w' r (.cells #[u, v] e) → w'.drawn = w.drawn → Ops none P n ds all k Φ l ((d, .slice (some ⟨r, 0, none⟩) 2 2) :: ρ) w') : Ops none P n ds all k Φ (o :: l) ρ w := by
  refine Ops.val hd hg (fun a hr => ?_) (hk _ _ (mk_alloc w _) (by rfl))
  have hcs : u.cells = #[u] := by cases u <;> simp_all [Value.oneCell', Value.cells]
  have hcs2 : v.cells = #[v] := by cases v <;> simp_all [Value.oneCell', Value.cells]
  have hr1 : (Array.range 2 : Array Nat) = #[0, 1] := by rfl
  simp [execOp, ho, Instr.buildSlice, hr.ev hx, hr.ev hy, run_und (td_slice (tyD_ok ht)), VW.run_sizeOf hs, VW.run_zeroV hz, hr1, Instr.fill, hcs, hcs2, newRow, newObj, Sem.run]
end
attribute [local irreducible] W Ops OrdA VW.Ord OrdX Wi OpsI OrdF
def cfA (c : List (List Int)) (a b : List Int) : Int := bfS [cmI (totP c a c.length) (totP c b c.length), slC a b]
set_option maxHeartbeats 2000000 in
theorem Item1_c {w : World} {cv av bv : Value} {b2 : Nat} {c : List (List Int)} {a b : List Int} (hB : Blk w b2 #[cv] 22) (hM : RowsM w cv c) (hC : Cst c) (ha : SlI w av a) (hb : SlI w bv b) (hA : Asg a c.length) (hA2 : Asg b c.length) :
    Calls Try.prog 81 #[av, bv, .pointer (some ⟨b2, 0, none⟩)] w (Ret fun r w' => r = .int .i64 (cfA c a b) ∧ DB w w') := by
  obtain ⟨Ac, cc, rfl⟩ := hM.sl
  obtain ⟨Aa, ma, rfl⟩ := Sl.shape ha
  obtain ⟨Ab, mb, rfl⟩ := Sl.shape hb
  refine calls_W (vs := [_, _, _]) Try.func81 rfl (by kernel_rfl) rfl ?_
  (repeat (first | with_reducible refine W.seq ?_ | with_reducible refine Ops.nil ?_ | with_reducible refine W.region ?_ | refine z_p (kk := ?_)))
  refine W.ordD 10 [(0, 2), (1, 1), (2, 2), (3, 2), (4, 1), (5, 2), (6, 2), (7, 1), (8, 1), (9, 2), (10, 0), (11, 0), (12, 1)] rfl (by kernel_rfl) rfl (by kernel_rfl) (fun _ _ _ h => h) ?_
  (repeat (first | refine x_p (kk := ?_) | refine x_D (hF := fun _ h => h.1) (kk := ?_)))
  refine OrdA.call rfl rfl rfl rfl rfl rfl rfl (fun w' hw' => DB.same hw' (total_c (hM.below hw'.1) hC (Sl.below ha hw'.1) (fun q hq => (hA.2 q hq).1) (by rw [hA.1]; exact Nat.le_refl _))) ?_
  rw [hA.1]
  (repeat (first | refine x_p (kk := ?_) | refine x_D (hF := fun _ h => h.1) (kk := ?_)))
  refine OrdA.call rfl rfl rfl rfl rfl rfl rfl (fun w' hw' => DB.same hw' (total_c (hM.below hw'.1) hC (Sl.below hb hw'.1) (fun q hq => (hA2.2 q hq).1) (by rw [hA2.1]; exact Nat.le_refl _))) ?_
  rw [hA2.1]
  refine OrdA.call rfl rfl rfl rfl rfl rfl rfl (fun w' hw' => DB.same hw' (cmp_c _ _ _)) ?_
  (repeat (first | refine x_p (kk := ?_)))
  have ha' : SlI w (.slice Aa c.length ma) a := by rw [← hA.1]; exact ha
  have hb' : SlI w (.slice Ab c.length mb) b := by rw [← hA2.1]; exact hb
  refine OrdA.call rfl rfl rfl rfl rfl rfl rfl (fun w' hw' => DB.same hw' (slCmp_c (Sl.below ha' hw'.1) (Sl.below hb' hw'.1))) ?_
  refine OrdA.eff rfl (fun wr hbr => Ops.bs2D rfl rfl rfl rfl rfl rfl rfl rfl rfl rfl rfl (fun ws rs hMs hds => Ops.nil (W.endl ?_)))
  refine VW.Ord.effT rfl (Ops.callS rfl rfl rfl rfl rfl (before_c (lit2 hMs)) (Ops.nil (W.endl ?_)))
  (repeat (first | refine y_p (kk := ?_)))
  refine VW.Ord.nil ?_
  exact W.fret rfl ⟨rfl, Below.put hbr.1 hMs.kp (fun _ e => e.elim), by rw [hds]; exact hbr.2⟩
end Go.Proofs.Ytehjmakiljhjdaa
/- Rows of the call's own whose elements have two cells: an element is a number z, its cells fa z and fb z. -/
namespace Go.Proofs.Ytehjmakiljhjdaa.VW
open Go Go.RowKit
def fl2 (fa fb : Int → Value) : List Int → List Value
  | [] => []
  | z :: r => fa z :: fb z :: fl2 fa fb r
theorem fl2_len (fa fb : Int → Value) : ∀ os : List Int, (fl2 fa fb os).length = os.length * 2
  | [] => rfl
  | z :: r => by simp only [fl2, List.length_cons, fl2_len fa fb r]; omega
theorem fl2_get {fa fb : Int → Value} : ∀ (os : List Int) (i : Nat), i < os.length → (fl2 fa fb os)[i * 2]? = some (fa (os.getD i 0)) ∧ (fl2 fa fb os)[i * 2 + 1]? = some (fb (os.getD i 0))
  | [], i, h => by simp at h
  | z :: r, 0, _ => ⟨rfl, rfl⟩
  | z :: r, i + 1, h => by
    have := fl2_get (fa := fa) (fb := fb) r i (by simpa using h)
    rw [show (i + 1) * 2 = i * 2 + 2 by omega]
    simpa [fl2] using this
theorem fl2_set {fa fb : Int → Value} {u : Int} : ∀ (os : List Int) (i : Nat), ((fl2 fa fb os).set (i * 2) (fa u)).set (i * 2 + 1) (fb u) = fl2 fa fb (os.set i u)
  | [], i => rfl
  | z :: r, 0 => rfl
  | z :: r, i + 1 => by
    have := fl2_set (fa := fa) (fb := fb) (u := u) r i
    rw [show (i + 1) * 2 = i * 2 + 1 + 1 by omega]
    simp only [fl2, List.set_cons_succ, this]
structure OJ (e : Nat) (fa fb : Int → Value) (w0 w : World) (ov : Value) (os : List Int) : Prop where
  bel : Below w0.heap.size w0 w
  own : w.ownsRow 0 e 2 ov os.length (fl2 fa fb os)
  ge : ∀ k, ov.ownBlock = some k → w0.heap.size ≤ k
theorem OJ.kp {e : Nat} {fa fb : Int → Value} {w0 w w' : World} {ov : Value} {os : List Int} {S : Nat → Prop} (h : OJ e fa fb w0 w ov os) (k : Kp S w w') (hs : ∀ i, S i → w0.heap.size ≤ i ∧ ov.ownBlock ≠ some i) : OJ e fa fb w0 w' ov os :=
  ⟨Below.put h.bel k (fun i hi => (hs i hi).1), own_kp h.own k (fun i hi e => (hs i e).2 hi), h.ge⟩
theorem OJ.below {e : Nat} {fa fb : Int → Value} {w0 w w' : World} {ov : Value} {os : List Int} (h : OJ e fa fb w0 w ov os) (k : Below w.heap.size w w') : OJ e fa fb w0 w' ov os := h.kp (Kp.of_below (S := fun _ => False) k) (fun _ e => e.elim)
theorem OJ.up {e : Nat} {fa fb : Int → Value} {w0 w1 w : World} {ov : Value} {os : List Int} (h : OJ e fa fb w1 w ov os) (k : Below w0.heap.size w0 w1) : OJ e fa fb w0 w ov os :=
  ⟨Below.via k h.bel, h.own, fun i hi => by have := h.ge i hi; have := k.size; omega⟩
theorem OJ.nil {e : Nat} {fa fb : Int → Value} {w0 w : World} (h : Below w0.heap.size w0 w) : OJ e fa fb w0 w (.slice none 0 0) [] := ⟨h, World.ownsRow_nil w 0 e 2, fun k hk => by simp [Value.ownBlock] at hk⟩
theorem OJ.sh {e : Nat} {fa fb : Int → Value} {w0 w : World} {ov : Value} {os : List Int} (h : OJ e fa fb w0 w ov os) : ∃ A c, ov = .slice A os.length c := by
  rcases h.own.2 with ⟨h2, h3⟩ | ⟨g, cap, cur, h2, _⟩
  · exact ⟨none, 0, by rw [h2, h3]⟩
  · exact ⟨_, _, h2⟩
theorem OJ.at_ {e : Nat} {fa fb : Int → Value} {w0 w : World} {ov : Value} {os : List Int} (h : OJ e fa fb w0 w ov os) (hp : 0 < os.length) : ∃ g c, ov = .slice (some ⟨g, 0, none⟩) os.length c ∧ ∀ i, i < os.length → w.cell? ((⟨g, 0, none⟩ : Addr).add (i * 2)) = some (fa (os.getD i 0)) ∧ w.cell? (((⟨g, 0, none⟩ : Addr).add (i * 2)).add 1) = some (fb (os.getD i 0)) := by
  rcases h.own.2 with ⟨h2, h3⟩ | ⟨g, cap, cur, h2, _⟩
  · omega
  · refine ⟨g, cap, h2, fun i hi => ?_⟩
    obtain ⟨a1, a2⟩ := fl2_get (fa := fa) (fb := fb) os i hi
    refine ⟨h.own.cells (g := g) (by rw [h2]; rfl) _ _ a1, ?_⟩
    have := h.own.cells (g := g) (by rw [h2]; rfl) _ _ a2
    rw [show ((⟨g, 0, none⟩ : Addr).add (i * 2)).add 1 = (⟨g, 0, none⟩ : Addr).add (i * 2 + 1) by simp only [add_lit, Nat.add_assoc]]
    exact this
section
variable {P : Program} [hT : Tab P] {n : Nat} {ds : List Deferred} {Φ : Post} {k : List It} {ρ : E} {w : World} {all : Array Oper} {l : List Oper} {md : Option (List Oper)} {s : Nat} {F : World → Prop} {π : List (Nat × Nat)} {L : List Bool}
/-- An element of two cells, read in a drawn region. -/
theorem OrdA.rdJ {fa fb : Int → Value} {i1 i2 d1 d2 t t' e : Nat} {o1 o2 : Oper} {x y : Operand} {v : Value} {i : Int} {os : List Int} {w0 wr : World} {c1 c2 : Bool}
    (h1 : all[i1]? = some o1) (ho : o1.op = .indexAddr t x y) (hd1 : o1.dst = some d1) (hg1 : gdB all ρ o1.guard = some c1) (hc1 : c1 = true)
    (h2 : all[i2]? = some o2) (ho2 : o2.op = .load t' (.tmp d1)) (hd2 : o2.dst = some d2) (hg2 : ∀ p, gdB all ((d1, .pointer p) :: ρ) o2.guard = some c2) (hc2 : c2 = true)
    (ht : tyD P t = some (.slice e)) (hs : tyS P e = some 2) (ha : tyAgg P t' = some true) (hs2 : tyS P t' = some 2) (hx : ev ρ x = some v) (hy : ev ρ y = some (.int .i64 i)) (hO : OJ e fa fb w0 wr v os) (hF : ∀ w, F w → Below wr.heap.size wr w) (h0 : 0 ≤ i) (hi : i < os.length)
    (hk : ∀ p, OrdA P n ds all k Φ s F π ((L.set i1 true).set i2 true) ((d2, .agg #[fa (os.getD i.toNat 0), fb (os.getD i.toNat 0)]) :: (d1, p) :: ρ)) : OrdA P n ds all k Φ s F ((i1, 1) :: (i2, 2) :: π) L ρ := by
  obtain ⟨g, c, rfl, hc⟩ := hO.at_ (by omega)
  obtain ⟨k1, k2⟩ := hc i.toNat (by omega)
  refine OrdA.pure h1 hd1 hg1 hc1 (fun w => EV.idx ho ht hs hx hy h0 hi) ?_
  exact OrdA.read h2 hd2 (hg2 _) hc2 (fun w hw => EV.ld2 ho2 ha hs2 (ev_top _ _ _) (cell_kp (Kp.of_below (S := fun _ => False) (hF w hw)) k1 (fun e => e)) (cell_kp (Kp.of_below (S := fun _ => False) (hF w hw)) k2 (fun e => e))) (hk _)
/-- An element of two cells, written. -/
theorem Ops.stJ {fa fb : Int → Value} {w0 : World} {o2 : Oper} {d1 t' e : Nat} {z : Operand} {v : Value} {u : Int} {i : Nat} {os : List Int} {a : Addr} {m c : Nat}
    (ho2 : o2.op = .store t' (.tmp d1) z) (hd2 : o2.dst = none) (hg2 : o2.guard = none) (hs' : tyS P t' = some 2) (hv : v = .slice (some a) m c) (hx : ev ρ (.tmp d1) = some (.pointer (some (a.add (i * 2))))) (hz : ev ρ z = some (.agg #[fa u, fb u])) (h1a : (fa u).oneCell' = true) (h1b : (fb u).oneCell' = true)
    (hO : OJ e fa fb w0 w v os) (h1 : i < os.length)
    (hk : ∀ w', OJ e fa fb w0 w' v (os.set i u) → Kp (fun b => v.ownBlock = some b) w w' → w'.heap.size = w.heap.size → Ops none P n ds all k Φ l ρ w') : Ops none P n ds all k Φ (o2 :: l) ρ w := by
  subst hv
  have hown := hO.own
  rcases hown.2 with ⟨h2, _⟩ | ⟨g, cap, cur, h2, _, hg, hnc, hx2, hcs, ht'⟩
  · cases h2
  · cases h2
    obtain ⟨s1, g1⟩ := hown.stored (i * 2) (fa u)
    obtain ⟨s2, g2⟩ := s1.stored (i * 2 + 1) (fb u)
    rw [fl2_set] at s2
    obtain ⟨a1, a2⟩ := fl2_get (fa := fa) (fb := fb) os i h1
    have c1 := hown.cells (g := g) rfl _ _ a1
    have c2 := s1.cells (g := g) rfl (i * 2 + 1) (fb (os.getD i 0)) (by rw [List.getElem?_set_ne (by omega)]; exact a2)
    rw [add_lit, Nat.zero_add] at c1 c2 hx
    have f1 : w.frozen? ⟨g, i * 2, none⟩ = false := by simp [World.frozen?, hg]
    have f2 : (w.setCell ⟨g, i * 2, none⟩ (fa u)).frozen? ⟨g, i * 2 + 1, none⟩ = false := by rw [World.frozen?_setCell]; simp [World.frozen?, hg]
    have r1 := run_store (P := P) h1a c1 f1
    have r2 := run_store (P := P) h1b c2 f2
    have kk := (Kp.of_grown g1).trans (Kp.of_grown g2)
    have kS : Kp (fun b => (Value.slice (some ⟨g, 0, none⟩) os.length c).ownBlock = some b) w ((w.setCell ⟨g, i * 2, none⟩ (fa u)).setCell ⟨g, i * 2 + 1, none⟩ (fb u)) := kk.mono (fun b _ e => by simp at e; simp [Value.ownBlock, e])
    refine Ops.unit hg2 hd2 (fun a hr => ?_) (hk _ ⟨Below.put hO.bel kS (fun i hi => hO.ge i hi), by simpa using s2, hO.ge⟩ kS (by simp))
    simp only [execOp, ho2, hr.ev hx, hr.ev hz]
    simp [Instr.storeAt, Instr.sureAddr, storeVar, run_sizeOf hs', Value.cells, storeCells, add_lit, r1, r2]
/-- An element is written at the end of a region. -/
theorem OrdA.wrJ {fa fb : Int → Value} {w0 wr : World} {i1 d1 t t' e : Nat} {o1 o2 : Oper} {x y z : Operand} {v : Value} {u : Int} {i : Int} {os : List Int} {c1 : Bool}
    (h1 : all[i1]? = some o1) (ho : o1.op = .indexAddr t x y) (hd1 : o1.dst = some d1) (hg1 : gdB all ρ o1.guard = some c1) (hc1 : c1 = true) (h2 : all[s]? = some o2) (ho2 : o2.op = .store t' (.tmp d1) z) (hd2 : o2.dst = none) (hg2 : o2.guard = none)
    (ht : tyD P t = some (.slice e)) (hs : tyS P e = some 2) (hs' : tyS P t' = some 2) (hx : ev ρ x = some v) (hy : ev ρ y = some (.int .i64 i)) (hz : ∀ p, ev ((d1, .pointer p) :: ρ) z = some (.agg #[fa u, fb u])) (h1a : (fa u).oneCell' = true) (h1b : (fb u).oneCell' = true)
    (hO : OJ e fa fb w0 wr v os) (hF : ∀ w, F w → Below wr.heap.size wr w) (h0 : 0 ≤ i) (hi : i < os.length)
    (hk : ∀ w w' p, F w → OJ e fa fb w0 w' v (os.set i.toNat u) → Kp (fun b => v.ownBlock = some b) w w' → w'.heap.size = w.heap.size → Ord P n ds all k Φ 9999 (fun _ => True) π ((L.set i1 true).set s true) ((d1, p) :: ρ) w') : OrdA P n ds all k Φ s F ((i1, 1) :: (s, 0) :: π) L ρ := by
  obtain ⟨A, c, rfl⟩ := hO.sh
  have hA : ∃ a, A = some a := by
    cases A with
    | some a => exact ⟨a, rfl⟩
    | none =>
      rcases hO.own.2 with ⟨h2, h3⟩ | ⟨g, cap, cur, h2, _⟩
      · omega
      · cases h2
  obtain ⟨a, rfl⟩ := hA
  refine OrdA.pure h1 hd1 hg1 hc1 (fun w => EV.idx ho ht hs hx hy h0 hi) (OrdA.eff h2 fun w hw => ?_)
  exact Ops.stJ (i := i.toNat) ho2 hd2 hg2 hs' rfl (ev_top _ _ _) (hz _) h1a h1b (hO.below (hF w hw)) (by omega) (fun w' hO' k1 hsz => Ops.nil (W.endl (hk w w' _ hw hO' k1 hsz)))
theorem Ord.wrJ {fa fb : Int → Value} {w0 : World} {i1 i2 d1 t t' e : Nat} {o1 o2 : Oper} {x y z : Operand} {v : Value} {u : Int} {i : Int} {os : List Int} {c1 : Bool}
    (h1 : all[i1]? = some o1) (ho : o1.op = .indexAddr t x y) (hd1 : o1.dst = some d1) (hg1 : gdB all ρ o1.guard = some c1) (hc1 : c1 = true) (h2 : all[i2]? = some o2) (ho2 : o2.op = .store t' (.tmp d1) z) (hd2 : o2.dst = none) (hg2 : o2.guard = none)
    (ht : tyD P t = some (.slice e)) (hs : tyS P e = some 2) (hs' : tyS P t' = some 2) (hx : ev ρ x = some v) (hy : ev ρ y = some (.int .i64 i)) (hz : ∀ p, ev ((d1, .pointer p) :: ρ) z = some (.agg #[fa u, fb u])) (h1a : (fa u).oneCell' = true) (h1b : (fb u).oneCell' = true)
    (hO : OJ e fa fb w0 w v os) (h0 : 0 ≤ i) (hi : i < os.length) (hΦ : ∀ c ρ w, ¬ Φ (.panic c) ρ w)
    (hk : ∀ w' p, OJ e fa fb w0 w' v (os.set i.toNat u) → Kp (fun b => v.ownBlock = some b) w w' → w'.heap.size = w.heap.size → VW.Ord P n ds all k Φ 9999 (fun _ => True) π ((L.set i1 true).set i2 true) ((d1, p) :: ρ) w') : VW.Ord P n ds all k Φ 9999 (fun _ => True) ((i1, 1) :: (i2, 0) :: π) L ρ w := by
  obtain ⟨A, c, rfl⟩ := hO.sh
  have hA : ∃ a, A = some a := by
    cases A with
    | some a => exact ⟨a, rfl⟩
    | none =>
      rcases hO.own.2 with ⟨h2, h3⟩ | ⟨g, cap, cur, h2, _⟩
      · omega
      · cases h2
  obtain ⟨a, rfl⟩ := hA
  refine VW.Ord.pure h1 hd1 hg1 hc1 hΦ (fun w => EV.idx ho ht hs hx hy h0 hi) (VW.Ord.effT h2 ?_)
  exact Ops.stJ (i := i.toNat) ho2 hd2 hg2 hs' rfl (ev_top _ _ _) (hz _) h1a h1b hO (by omega) (fun w' hO' k1 hsz => Ops.nil (W.endl (hk w' _ hO' k1 hsz)))
end
end Go.Proofs.Ytehjmakiljhjdaa.VW
/- Segments that are permuted. -/
namespace Go.Proofs.Ytehjmakiljhjdaa.HP
/-- os' is os with the places from a to b permuted. -/
structure SegP (a b : Nat) (os os' : List Int) : Prop where
  len : os'.length = os.length
  out : ∀ p : Nat, p < a ∨ b ≤ p → os'.getD p 0 = os.getD p 0
  mem : ∀ p : Nat, a ≤ p → p < b → ∃ q : Nat, a ≤ q ∧ q < b ∧ os'.getD p 0 = os.getD q 0
  perm : os'.Perm os
theorem SegP.refl (a b : Nat) (os : List Int) : SegP a b os os := ⟨rfl, fun _ _ => rfl, fun p h1 h2 => ⟨p, h1, h2, rfl⟩, List.Perm.refl _⟩
theorem SegP.trans {a b : Nat} {x y z : List Int} (h : SegP a b x y) (k : SegP a b y z) : SegP a b x z :=
  ⟨k.len.trans h.len, fun p hp => (k.out p hp).trans (h.out p hp), fun p h1 h2 => by
    obtain ⟨q, q1, q2, e⟩ := k.mem p h1 h2
    obtain ⟨r, r1, r2, e'⟩ := h.mem q q1 q2
    exact ⟨r, r1, r2, e.trans e'⟩, k.perm.trans h.perm⟩
theorem SegP.wide {a b a' b' : Nat} {x y : List Int} (h : SegP a b x y) (ha : a' ≤ a) (hb : b ≤ b') : SegP a' b' x y :=
  ⟨h.len, fun p hp => h.out p (by omega), fun p h1 h2 => by
    by_cases e : a ≤ p ∧ p < b
    · obtain ⟨q, q1, q2, e'⟩ := h.mem p e.1 e.2
      exact ⟨q, by omega, by omega, e'⟩
    · exact ⟨p, h1, h2, h.out p (by omega)⟩, h.perm⟩
theorem getD_set' {os : List Int} {i p : Nat} {x : Int} (hi : i < os.length) : (os.set i x).getD p 0 = if p = i then x else os.getD p 0 := by
  by_cases e : p = i
  · subst e; rw [if_pos rfl]; simp [List.getD_eq_getElem?_getD, hi]
  · rw [if_neg e, List.getD_eq_getElem?_getD, List.getElem?_set_ne (fun h => e h.symm), ← List.getD_eq_getElem?_getD]
/-- Two places exchanged. -/
def swp (os : List Int) (i j : Nat) : List Int := (os.set i (os.getD j 0)).set j (os.getD i 0)
theorem swp_getD {os : List Int} {i j p : Nat} (hi : i < os.length) (hj : j < os.length) : (swp os i j).getD p 0 = if p = j then os.getD i 0 else if p = i then os.getD j 0 else os.getD p 0 := by
  unfold swp
  rw [getD_set' (by simpa using hj), getD_set' hi]
theorem swp_len (os : List Int) (i j : Nat) : (swp os i j).length = os.length := by simp [swp]
theorem set_perm : ∀ (os : List Int) (i : Nat) (x : Int), i < os.length → ((os.getD i 0) :: os.set i x).Perm (x :: os)
  | [], i, x, h => by simp at h
  | a :: r, 0, x, _ => by simpa using List.Perm.swap x a r
  | a :: r, i + 1, x, h => by
    have ih := set_perm r i x (by simpa using h)
    simp only [List.set_cons_succ, List.getD_cons_succ]
    exact (List.Perm.swap a _ _).trans ((ih.cons a).trans (List.Perm.swap x a r))
theorem swp_perm {os : List Int} {i j : Nat} (hi : i < os.length) (hj : j < os.length) : (swp os i j).Perm os := by
  have h1 := set_perm os i (os.getD j 0) hi
  have h2 := set_perm (os.set i (os.getD j 0)) j (os.getD i 0) (by simpa using hj)
  have e : (os.set i (os.getD j 0)).getD j 0 = os.getD j 0 := by
    rw [getD_set' hi]
    split
    · rfl
    · rfl
  rw [e] at h2
  have h3 : (os.getD j 0 :: swp os i j).Perm (os.getD j 0 :: os) := h2.trans h1
  exact List.Perm.cons_inv h3
theorem swp_seg {os : List Int} {a b i j : Nat} (hi : i < os.length) (hj : j < os.length) (hai : a ≤ i) (hib : i < b) (haj : a ≤ j) (hjb : j < b) : SegP a b os (swp os i j) :=
  ⟨swp_len _ _ _, fun p hp => by rw [swp_getD hi hj, if_neg (by omega), if_neg (by omega)], fun p h1 h2 => by
    rw [swp_getD hi hj]
    by_cases e : p = j
    · rw [if_pos e]; exact ⟨i, hai, hib, rfl⟩
    · rw [if_neg e]
      by_cases e2 : p = i
      · rw [if_pos e2]; exact ⟨j, haj, hjb, rfl⟩
      · rw [if_neg e2]; exact ⟨p, h1, h2, rfl⟩, swp_perm hi hj⟩
/-- K-sorted from a to b. -/
def SortK (K : Int → Int) (os : List Int) (a b : Nat) : Prop := ∀ p q : Nat, a ≤ p → p < q → q < b → K (os.getD p 0) < K (os.getD q 0)
theorem SortK.same {K : Int → Int} {x y : List Int} {a b : Nat} (h : SortK K x a b) (e : ∀ p : Nat, a ≤ p → p < b → y.getD p 0 = x.getD p 0) : SortK K y a b := fun p q h1 h2 h3 => by
  rw [e p h1 (by omega), e q (by omega) h3]; exact h p q h1 h2 h3
end Go.Proofs.Ytehjmakiljhjdaa.HP
/- Blocks exchanged, and rotated. -/
namespace Go.Proofs.Ytehjmakiljhjdaa.HP
/-- os' is os with the i numbers from a, and those from b, exchanged. -/
structure SwR (a b i : Nat) (os os' : List Int) : Prop where
  seg : ∀ lo hi : Nat, lo ≤ a → b + i ≤ hi → SegP lo hi os os'
  low : ∀ x : Nat, a ≤ x → x < a + i → os'.getD x 0 = os.getD (x + (b - a)) 0
  upp : ∀ x : Nat, b ≤ x → x < b + i → os'.getD x 0 = os.getD (x - (b - a)) 0
  out : ∀ x : Nat, x < a ∨ (a + i ≤ x ∧ x < b) ∨ b + i ≤ x → os'.getD x 0 = os.getD x 0
theorem SwR.start (a b : Nat) (os : List Int) : SwR a b 0 os os :=
  ⟨fun _ _ _ _ => SegP.refl _ _ _, fun x h1 h2 => by omega, fun x h1 h2 => by omega, fun _ _ => rfl⟩
theorem SwR.step {a b i : Nat} {os os' : List Int} (h : SwR a b i os os') (hab : a + i < b) (hb : b + i < os.length) : SwR a b (i + 1) os (swp os' (a + i) (b + i)) := by
  have hl : os'.length = os.length := (h.seg a (b + i) (Nat.le_refl _) (Nat.le_refl _)).len
  have g : ∀ p : Nat, (swp os' (a + i) (b + i)).getD p 0 = if p = b + i then os'.getD (a + i) 0 else if p = a + i then os'.getD (b + i) 0 else os'.getD p 0 := fun p => swp_getD (by omega) (by omega)
  refine ⟨fun lo hi h1 h2 => (h.seg lo hi h1 (by omega)).trans (swp_seg (by omega) (by omega) (by omega) (by omega) (by omega) (by omega)), fun x h1 h2 => ?_, fun x h1 h2 => ?_, fun x hx => ?_⟩
  · rw [g, if_neg (by omega)]
    by_cases e : x = a + i
    · rw [if_pos e, h.out _ (by omega)]; congr 1; omega
    · rw [if_neg e]; exact h.low x h1 (by omega)
  · rw [g]
    by_cases e : x = b + i
    · rw [if_pos e, h.out _ (by omega)]; congr 1; omega
    · rw [if_neg e, if_neg (by omega)]; exact h.upp x h1 (by omega)
  · rw [g, if_neg (by omega), if_neg (by omega)]; exact h.out x (by omega)
/-- On the way of a rotation: T is what it comes to; the i numbers before m and the j numbers from m are still to be exchanged. -/
structure Rot (T : Nat → Int) (a m b i j : Nat) (os0 os : List Int) : Prop where
  seg : SegP a b os0 os
  ia : a + i ≤ m
  jb : m + j ≤ b
  lo : ∀ x : Nat, a ≤ x → x < m - i → os.getD x 0 = T x
  hi : ∀ x : Nat, m + j ≤ x → x < b → os.getD x 0 = T x
  l : ∀ x : Nat, m - i ≤ x → x < m - i + j → os.getD (x + i) 0 = T x
  r : ∀ x : Nat, m - i + j ≤ x → x < m + j → os.getD (x - j) 0 = T x
/-- What a rotation comes to. -/
def rotT (os : List Int) (a m b : Nat) (x : Nat) : Int := if x < a + (b - m) then os.getD (x + (m - a)) 0 else os.getD (x - (b - m)) 0
theorem Rot.start {a m b : Nat} (os : List Int) (h1 : a ≤ m) (h2 : m ≤ b) : Rot (rotT os a m b) a m b (m - a) (b - m) os os :=
  ⟨SegP.refl _ _ _, by omega, by omega, fun x h1 h2 => by omega, fun x h1 h2 => by omega, fun x h3 h4 => by unfold rotT; rw [if_pos (by omega)], fun x h3 h4 => by unfold rotT; rw [if_neg (by omega)]⟩
theorem Rot.left {T : Nat → Int} {a m b i j : Nat} {os0 os os' : List Int} (h : Rot T a m b i j os0 os) (hij : j < i) (s : SwR (m - i) m j os os') : Rot T a m b (i - j) j os0 os' := by
  have ia := h.ia; have jb := h.jb
  refine ⟨h.seg.trans (s.seg a b (by omega) (by omega)), by omega, h.jb, fun x h1 h2 => ?_, fun x h1 h2 => ?_, fun x h1 h2 => ?_, fun x h1 h2 => ?_⟩
  · by_cases e : x < m - i
    · rw [s.out _ (by omega)]; exact h.lo x h1 e
    · rw [s.low _ (by omega) (by omega), show x + (m - (m - i)) = x + i by omega]; exact h.l x (by omega) (by omega)
  · rw [s.out _ (by omega)]; exact h.hi x h1 h2
  · by_cases e : x + (i - j) < m
    · omega
    · rw [s.upp _ (by omega) (by omega), show x + (i - j) - (m - (m - i)) = x - j by omega]; exact h.r x (by omega) (by omega)
  · rw [s.out _ (by omega)]; exact h.r x (by omega) h2
theorem Rot.right {T : Nat → Int} {a m b i j : Nat} {os0 os os' : List Int} (h : Rot T a m b i j os0 os) (hij : i < j) (s : SwR (m - i) (m + j - i) i os os') : Rot T a m b i (j - i) os0 os' := by
  have ia := h.ia; have jb := h.jb
  refine ⟨h.seg.trans (s.seg a b (by omega) (by omega)), h.ia, by omega, fun x h1 h2 => ?_, fun x h1 h2 => ?_, fun x h1 h2 => ?_, fun x h1 h2 => ?_⟩
  · rw [s.out _ (by omega)]; exact h.lo x h1 h2
  · by_cases e : x < m + j
    · rw [s.upp _ (by omega) (by omega), show x - (m + j - i - (m - i)) = x - j by omega]; exact h.r x (by omega) (by omega)
    · rw [s.out _ (by omega)]; exact h.hi x (by omega) h2
  · rw [s.out _ (by omega)]; exact h.l x h1 (by omega)
  · by_cases e : x - (j - i) < m
    · rw [s.low _ (by omega) (by omega), show x - (j - i) + (m + j - i - (m - i)) = x + i by omega]; exact h.l x (by omega) (by omega)
    · omega
theorem Rot.done {T : Nat → Int} {a m b i : Nat} {os0 os os' : List Int} (h : Rot T a m b i i os0 os) (s : SwR (m - i) m i os os') : SegP a b os0 os' ∧ ∀ x : Nat, a ≤ x → x < b → os'.getD x 0 = T x := by
  have ia := h.ia; have jb := h.jb
  refine ⟨h.seg.trans (s.seg a b (by omega) (by omega)), fun x h1 h2 => ?_⟩
  by_cases e1 : x < m - i
  · rw [s.out _ (by omega)]; exact h.lo x h1 e1
  · by_cases e2 : x < m
    · rw [s.low _ (by omega) (by omega), show x + (m - (m - i)) = x + i by omega]; exact h.l x (by omega) (by omega)
    · by_cases e3 : x < m + i
      · rw [s.upp _ (by omega) (by omega), show x - (m - (m - i)) = x - i by omega]; exact h.r x (by omega) (by omega)
      · rw [s.out _ (by omega)]; exact h.hi x (by omega) h2
end Go.Proofs.Ytehjmakiljhjdaa.HP
